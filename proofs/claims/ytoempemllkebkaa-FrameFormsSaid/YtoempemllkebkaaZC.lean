/- Entries: the reference's bytes, and its entry of bytes. -/
import Derived.Test.YtoempemllkebkaaZB
import Derived.Test.YtoempemllkebkaaProg
import Derived.Test.YtoempemllkebkaaZA
import Derived.KernelRfl
set_option linter.unusedVariables false
set_option linter.unusedSimpArgs false
set_option maxRecDepth 20000
namespace Go.Proofs.Ytoempemllkebkaa
open Go Go.Mx Go.Proofs
open W (OwnB Rd RdR GivesW numR countR doneR zig unzig intR)
def Q0H.M (af ag : Int) (R : RW) (w : World) : Prop :=
 thenW (w.alloc (.cells #[.int .i64 af, .int .i64 ag] 24)) fun ae =>
 thenW (ae.drew) fun ac =>
 ∃ (T5 : Int), ac.cell? ((blk w.heap.size).add 0) = some (.int .i64 T5) ∧
 ∃ (W6 : Int), ac.cell? ((blk w.heap.size).add 1) = some (.int .i64 W6) ∧
 Calls Try.prog 96 #[.int .i64 T5] ac fun ah ad => ∃ (a4 : Option Addr) (a3 a5 : Nat), ah = .returned (.slice a4 a3 a5) ∧
 ad.cell? ((blk w.heap.size).add 1) = some (.int .i64 W6) ∧
 Calls Try.prog 39 #[.int .u64 (IntKind.u64.wrap (if (0 : Int) > W6 then 0 else W6))] ad fun aa ab => ∃ (a0 : Option Addr) (a2 a1 : Nat), aa = .returned (.slice a0 a2 a1) ∧
 ∃ (a7 : Option Addr) (a6 a9 : Nat) (a8 : World), (Builtin.append_ #[25, 25] 25 #[.slice a4 a3 a5, .slice a0 a2 a1]).run Try.prog ab = .ok (.slice a7 a6 a9) a8 ∧
 R (.slice a7 a6 a9) a8

theorem Q0H.ok (a1 a0 : Int) {R : RW} {w : World} (h : Q0H.M a1 a0 R w) : Calls Try.prog 95 #[.agg #[.int .i64 a1, .int .i64 a0]] w fun e w' => ∃ v, e = .returned v ∧ R v w' :=
  Q08 follows (H := []) (args := [.agg #[.int .i64 a1, .int .i64 a0]]) (cast (by kernel_rfl) h)

def Q0H.N (ag ae : Int) (R : RW) (w : World) : Prop :=
 ∀ (aa : World) (p5 : Nat), Ext no w aa → Priv w aa [p5] →
 Calls Try.prog 96 #[.int .i64 ag] aa fun af ad => ∃ (a0 : Option Addr) (a1 a3 : Nat), af = .returned (.slice a0 a1 a3) ∧
 Keep [p5] aa ad ∧
 Calls Try.prog 39 #[.int .u64 (IntKind.u64.wrap (if (0 : Int) > ae then 0 else ae))] ad fun ac ab => ∃ (a5 : Option Addr) (a2 a4 : Nat), ac = .returned (.slice a5 a2 a4) ∧
 ∃ (a9 : Option Addr) (a8 a6 : Nat) (a7 : World), (Builtin.append_ #[25, 25] 25 #[.slice a0 a1 a3, .slice a5 a2 a4]).run Try.prog ab = .ok (.slice a9 a8 a6) a7 ∧
 R (.slice a9 a8 a6) a7

theorem Q0H.up (a9 aa : Int) {R : RW} {w : World} (h : Q0H.N a9 aa R w) : Q0H.M a9 aa R w := by
  unfold Q0H.M
  unfold Q0H.N at h
  refine Q02 fun ak e3 => ?_
  have a0 := Blk.of_new e3
  have ai := ((Ext.refl no w)).size
  have ah := (Ext.refl no w).x_alloc e3
  refine Q02 fun ad e4 => ?_
  have ae := ah.x_drew e4
  have a0 := a0.x_drew e4
  refine ⟨a9, a0.celli 0 rfl rfl, ?_⟩
  refine ⟨aa, a0.celli 1 rfl rfl, ?_⟩
  have h := h ad (w.heap.size) ae (Priv.cons ai a0.lt Priv.nil)
  refine h.mono fun al aj h => ?_
  obtain ⟨a4, a1, a2, he, hk, h⟩ := h
  refine ⟨a4, a1, a2, he, ?_⟩
  have a0 := hk.blk a0 (by simp)
  refine ⟨a0.celli 1 rfl rfl, ?_⟩
  refine h.mono fun ag af h => ?_
  obtain ⟨a6, a3, a5, he, h⟩ := h
  refine ⟨a6, a3, a5, he, ?_⟩
  obtain ⟨ac, ab, a7, a8, hr, h⟩ := h
  refine ⟨ac, ab, a7, a8, hr, ?_⟩
  exact h

theorem Q0H.go (a1 a0 : Int) {R : RW} {w : World} (h : Q0H.N a1 a0 R w) : Calls Try.prog 95 #[.agg #[.int .i64 a1, .int .i64 a0]] w fun e w' => ∃ v, e = .returned v ∧ R v w' := Q0H.ok a1 a0 (Q0H.up a1 a0 h)
def Q0v.M (r1 : Option Addr) (R : RW) (w : World) : Prop :=
 thenW (w.alloc (.cells #[.int .i64 0, .int .i64 0] 24)) fun a8 =>
 Calls Try.prog 86 #[.pointer r1] a8 fun aa a9 => ∃ (a4 : Int), aa = .returned (.int .i64 a4) ∧
 Calls Try.prog 43 #[.pointer r1, .int .i64 7] a9 fun a7 a5 => ∃ (a2 : Int), a7 = .returned (.int .i64 a2) ∧
 Q01 a5 ((blk w.heap.size).add 0) ∧
 thenW (a5.setCell ((blk w.heap.size).add 0) (.int .i64 a4)) fun a6 =>
 Q01 a6 ((blk w.heap.size).add 1) ∧
 thenW (a6.setCell ((blk w.heap.size).add 1) (.int .i64 a2)) fun a3 =>
 ∃ (a0 a1 : Int), cellsAt a3 (blk w.heap.size) [.int .i64 a0, .int .i64 a1] 0 ∧
 R (.agg #[.int .i64 a0, .int .i64 a1]) a3

theorem Q0v.ok (r1 : Option Addr) {R : RW} {w : World} (h : Q0v.M r1 R w) : Calls Try.prog 85 #[.pointer r1] w fun e w' => ∃ v, e = .returned v ∧ R v w' :=
  Q08 follows (H := []) (args := [.pointer r1]) (cast (by kernel_rfl) h)

def Q0v.N (r1 : Option Addr) (R : RW) (w : World) : Prop :=
 ∀ (a3 : World) (p3 : Nat), Ext no w a3 → Priv w a3 [p3] →
 Calls Try.prog 86 #[.pointer r1] a3 fun a7 a4 => ∃ (a2 : Int), a7 = .returned (.int .i64 a2) ∧
 Keep [p3] a3 a4 ∧
 Calls Try.prog 43 #[.pointer r1, .int .i64 7] a4 fun a6 a5 => ∃ (a0 : Int), a6 = .returned (.int .i64 a0) ∧
 Keep [p3] a4 a5 ∧
 ∀ (a1 : World), Ext (fun b => b = p3) a5 a1 →
 R (.agg #[.int .i64 a2, .int .i64 a0]) a1

theorem Q0v.up (r1 : Option Addr) {R : RW} {w : World} (h : Q0v.N r1 R w) : Q0v.M r1 R w := by
  unfold Q0v.M
  unfold Q0v.N at h
  refine Q02 fun ac e2 => ?_
  have a0 := Blk.of_new e2
  have ad := ((Ext.refl no w)).size
  have ab := (Ext.refl no w).x_alloc e2
  have h := h ac (w.heap.size) ab (Priv.cons ad a0.lt Priv.nil)
  refine h.mono fun ag ae h => ?_
  obtain ⟨a2, he, hk, h⟩ := h
  refine ⟨a2, he, ?_⟩
  have a0 := hk.blk a0 (by simp)
  refine h.mono fun af a7 h => ?_
  obtain ⟨a1, he, hk, h⟩ := h
  refine ⟨a1, he, ?_⟩
  have a0 := hk.blk a0 (by simp)
  have a3 : Ext (fun b => b = w.heap.size) a7 a7 := ((Ext.refl no a7)).none
  refine ⟨a0.cani 0 rfl rfl, Q02 fun aa a8 => ?_⟩
  have a6 := a3.x_set (q := w.heap.size) (i := 0) rfl (.inl rfl) a8
  have a0 := a0.seti 0 rfl a8
  refine ⟨a0.cani 1 rfl rfl, Q02 fun a4 a9 => ?_⟩
  have a5 := a6.x_set (q := w.heap.size) (i := 1) rfl (.inl rfl) a9
  have a0 := a0.seti 1 rfl a9
  refine ⟨a2, a1, ⟨a0.celli 0 rfl rfl, a0.celli 1 rfl rfl, trivial⟩, ?_⟩
  have h := h a4 a5
  exact h

theorem Q0v.go (r1 : Option Addr) {R : RW} {w : World} (h : Q0v.N r1 R w) : Calls Try.prog 85 #[.pointer r1] w fun e w' => ∃ v, e = .returned v ∧ R v w' := Q0v.ok r1 (Q0v.up r1 h)
theorem Q0v.run (r1 : Option Addr) {V : Value} {Q : World → Prop} {w : World} (h : Q0v.N r1 (fun v w' => v = V ∧ Q w') w) : Calls Try.prog 85 #[.pointer r1] w (Ret V Q) := (Q0v.go r1 h).mono fun e w' ⟨v, he, hv, hq⟩ => ⟨by rw [he, hv], hq⟩

abbrev Q0p.J1 (ax : Addr) (R : RW) (b0 : World) : Prop :=
 ∃ (a2 : Int), b0.cell? (ax.add 0) = some (.int .i64 a2) ∧
 Calls Try.prog 39 #[.int .u64 (IntKind.u64.wrap a2)] b0 fun bh az => ∃ (aa : Option Addr) (ab a9 : Nat), bh = .returned (.slice aa ab a9) ∧
 ∃ (a4 : Int), az.cell? (ax.add 1) = some (.int .i64 a4) ∧
 Calls Try.prog 39 #[.int .u64 (IntKind.u64.wrap a4)] az fun bl bm => ∃ (ai : Option Addr) (al af : Nat), bl = .returned (.slice ai al af) ∧
 ∃ (b1 : Option Addr) (b6 bb : Nat) (ar : World), (Builtin.append_ #[25, 25] 25 #[.slice aa ab a9, .slice ai al af]).run Try.prog bm = .ok (.slice b1 b6 bb) ar ∧
 ∃ (am : Int), ar.cell? (ax.add 2) = some (.int .u64 am) ∧
 Calls Try.prog 39 #[.int .u64 am] ar fun bk bg => ∃ (ae : Option Addr) (ad ah : Nat), bk = .returned (.slice ae ad ah) ∧
 ∃ (ba : Option Addr) (bf b5 : Nat) (av : World), (Builtin.append_ #[25, 25] 25 #[.slice b1 b6 bb, .slice ae ad ah]).run Try.prog bg = .ok (.slice ba bf b5) av ∧
 ∃ (aq ap : Int), cellsAt av (ax.add 3) [.int .i64 aq, .int .i64 ap] 0 ∧
 Calls Try.prog 95 #[.agg #[.int .i64 aq, .int .i64 ap]] av fun bj bq => ∃ (ao : Option Addr) (aj an : Nat), bj = .returned (.slice ao aj an) ∧
 ∃ (bc : Option Addr) (ay bd : Nat) (aw : World), (Builtin.append_ #[25, 25] 25 #[.slice ba bf b5, .slice ao aj an]).run Try.prog bq = .ok (.slice bc ay bd) aw ∧
 ∃ (a6 : Int), aw.cell? (ax.add 5) = some (.int .i64 a6) ∧
 Calls Try.prog 96 #[.int .i64 a6] aw fun bi bp => ∃ (ag : Option Addr) (ac ak : Nat), bi = .returned (.slice ag ac ak) ∧
 ∃ (b8 : Option Addr) (b2 b4 : Nat) (au : World), (Builtin.append_ #[25, 25] 25 #[.slice bc ay bd, .slice ag ac ak]).run Try.prog bp = .ok (.slice b8 b2 b4) au ∧
 ∃ (a5 : Option Addr) (a8 a7 : Nat), au.cell? (ax.add 6) = some (.slice a5 a8 a7) ∧
 Calls Try.prog 42 #[.slice a5 a8 a7] au fun bo bn => ∃ (a3 : Option Addr) (a1 a0 : Nat), bo = .returned (.slice a3 a1 a0) ∧
 ∃ (b3 : Option Addr) (b9 b7 : Nat) (be : World), (Builtin.append_ #[25, 25] 25 #[.slice b8 b2 b4, .slice a3 a1 a0]).run Try.prog bn = .ok (.slice b3 b9 b7) be ∧
 R (.tuple #[.slice b3 b9 b7, .int .i64 0]) be

def Q0p.M (aa af ah ak al ae : Int) (ad : Option Addr) (ac ag : Nat) (ai : Int) (R : RW) (w : World) : Prop :=
 thenW (w.alloc (.cells #[.int .i64 aa, .int .i64 af, .int .u64 ah, .int .i64 ak, .int .i64 al, .int .i64 ae, .slice ad ac ag, .int .u64 ai] 27)) fun an =>
 ∃ (a0 a5 a7 ab a9 a2 : Int) (a1 : Option Addr) (a3 a4 : Nat) (a8 : Int), cellsAt an (blk w.heap.size) [.int .i64 a0, .int .i64 a5, .int .u64 a7, .int .i64 ab, .int .i64 a9, .int .i64 a2, .slice a1 a3 a4, .int .u64 a8] 0 ∧
 Calls Try.prog 49 #[.agg #[.int .i64 a0, .int .i64 a5, .int .u64 a7, .int .i64 ab, .int .i64 a9, .int .i64 a2, .slice a1 a3 a4, .int .u64 a8]] an fun am aj => ∃ (a6 : Bool), am = .returned (.bool a6) ∧
 bif !a6 then (
 R (.tuple #[.slice none 0 0, .int .i64 1]) aj) else (
 Q0p.J1 (blk w.heap.size) R aj)

theorem Q0p.ok (a0 a2 a6 a7 a8 a1 : Int) (a5 : Option Addr) (a4 a3 : Nat) (a9 : Int) {R : RW} {w : World} (h : Q0p.M a0 a2 a6 a7 a8 a1 a5 a4 a3 a9 R w) : Calls Try.prog 84 #[.agg #[.int .i64 a0, .int .i64 a2, .int .u64 a6, .int .i64 a7, .int .i64 a8, .int .i64 a1, .slice a5 a4 a3, .int .u64 a9]] w fun e w' => ∃ v, e = .returned v ∧ R v w' :=
  Q08 follows (H := []) (args := [.agg #[.int .i64 a0, .int .i64 a2, .int .u64 a6, .int .i64 a7, .int .i64 a8, .int .i64 a1, .slice a5 a4 a3, .int .u64 a9]]) (cast (by kernel_rfl) h)

def Q0p.N (a0 a4 aa am ao a3 : Int) (a2 : Option Addr) (a1 a5 : Nat) (ay : Int) (R : RW) (w : World) : Prop :=
 ((Q03.F a0 a4 aa am ao a3 a2 a1 a5 ay) = false →
 ∀ (a9 : World), Ext no w a9 →
 R (.tuple #[.slice none 0 0, .int .i64 1]) a9) ∧
 ((Q03.F a0 a4 aa am ao a3 a2 a1 a5 ay) = true →
 ∀ (a9 : World) (au : Nat), Ext no w a9 → Priv w a9 [au] →
 Calls Try.prog 39 #[.int .u64 (IntKind.u64.wrap a0)] a9 fun br b4 => ∃ (al : Option Addr) (ac ag : Nat), br = .returned (.slice al ac ag) ∧
 Keep [au] a9 b4 ∧
 Calls Try.prog 39 #[.int .u64 (IntKind.u64.wrap a4)] b4 fun bq b0 => ∃ (ap : Option Addr) (ab ai : Nat), bq = .returned (.slice ap ab ai) ∧
 Keep [au] b4 b0 ∧
 ∃ (bb : Option Addr) (bc bh : Nat) (ax : World), (Builtin.append_ #[25, 25] 25 #[.slice al ac ag, .slice ap ab ai]).run Try.prog b0 = .ok (.slice bb bc bh) ax ∧
 Keep [au] b0 ax ∧
 Calls Try.prog 39 #[.int .u64 aa] ax fun bo b1 => ∃ (ae : Option Addr) (an ak : Nat), bo = .returned (.slice ae an ak) ∧
 Keep [au] ax b1 ∧
 ∃ (b5 : Option Addr) (b6 bg : Nat) (av : World), (Builtin.append_ #[25, 25] 25 #[.slice bb bc bh, .slice ae an ak]).run Try.prog b1 = .ok (.slice b5 b6 bg) av ∧
 Keep [au] b1 av ∧
 Calls Try.prog 95 #[.agg #[.int .i64 am, .int .i64 ao]] av fun bm b2 => ∃ (aq : Option Addr) (ad ah : Nat), bm = .returned (.slice aq ad ah) ∧
 Keep [au] av b2 ∧
 ∃ (bi : Option Addr) (bk b7 : Nat) (aw : World), (Builtin.append_ #[25, 25] 25 #[.slice b5 b6 bg, .slice aq ad ah]).run Try.prog b2 = .ok (.slice bi bk b7) aw ∧
 Keep [au] b2 aw ∧
 Calls Try.prog 96 #[.int .i64 a3] aw fun bp az => ∃ (ar : Option Addr) (aj af : Nat), bp = .returned (.slice ar aj af) ∧
 Keep [au] aw az ∧
 ∃ (bf : Option Addr) (b9 bd : Nat) (b3 : World), (Builtin.append_ #[25, 25] 25 #[.slice bi bk b7, .slice ar aj af]).run Try.prog az = .ok (.slice bf b9 bd) b3 ∧
 Keep [au] az b3 ∧
 Calls Try.prog 42 #[.slice a2 a1 a5] b3 fun bl bn => ∃ (a8 : Option Addr) (a7 a6 : Nat), bl = .returned (.slice a8 a7 a6) ∧
 ∃ (b8 : Option Addr) (be bj : Nat) (ba : World), (Builtin.append_ #[25, 25] 25 #[.slice bf b9 bd, .slice a8 a7 a6]).run Try.prog bn = .ok (.slice b8 be bj) ba ∧
 R (.tuple #[.slice b8 be bj, .int .i64 0]) ba)

theorem Q0p.up (a0 a5 a7 a8 a9 a4 : Int) (a3 : Option Addr) (a2 a6 : Nat) (aa : Int) {R : RW} {w : World} (h : Q0p.N a0 a5 a7 a8 a9 a4 a3 a2 a6 aa R w) : Q0p.M a0 a5 a7 a8 a9 a4 a3 a2 a6 aa R w := by
  unfold Q0p.M
  unfold Q0p.N at h
  refine Q02 fun bv e9 => ?_
  have a1 := Blk.of_new e9
  have bu := ((Ext.refl no w)).size
  have bq := (Ext.refl no w).x_alloc e9
  refine ⟨a0, a5, a7, a8, a9, a4, a3, a2, a6, aa, ⟨a1.celli 0 rfl rfl, a1.celli 1 rfl rfl, a1.celli 2 rfl rfl, a1.celli 3 rfl rfl, a1.celli 4 rfl rfl, a1.celli 5 rfl rfl, a1.celli 6 rfl rfl, a1.celli 7 rfl rfl, trivial⟩, ?_⟩
  refine (Q03.pure a0 a5 a7 a8 a9 a4 a3 a2 a6 aa).mono fun ee ww10 ⟨he, hxx⟩ => ⟨(Q03.F a0 a5 a7 a8 a9 a4 a3 a2 a6 aa), he, ?_⟩
  have av := bq.trans hxx
  have a1 := a1.ext hxx id
  refine bif_of (fun ay => ?_) (fun ay => ?_)
  ·have h := h.1 (not_t ay)
   have h := h ww10 av
   exact h
  have h := h.2 (not_f ay)
  unfold Q0p.J1
  refine ⟨a0, a1.celli 0 rfl rfl, ?_⟩
  have h := h ww10 (w.heap.size) av (Priv.cons bu a1.lt Priv.nil)
  refine h.mono fun br bt h => ?_
  obtain ⟨ao, af, aj, he, hk, h⟩ := h
  refine ⟨ao, af, aj, he, ?_⟩
  have a1 := hk.blk a1 (by simp)
  refine ⟨a5, a1.celli 1 rfl rfl, ?_⟩
  refine h.mono fun bs bl h => ?_
  obtain ⟨aq, ae, ak, he, hk, h⟩ := h
  refine ⟨aq, ae, ak, he, ?_⟩
  have a1 := hk.blk a1 (by simp)
  obtain ⟨b3, b4, bc, ba, hr, hk, h⟩ := h
  refine ⟨b3, b4, bc, ba, hr, ?_⟩
  have a1 := hk.blk a1 (by simp)
  refine ⟨a7, a1.celli 2 rfl rfl, ?_⟩
  refine h.mono fun bn bm h => ?_
  obtain ⟨ai, ap, an, he, hk, h⟩ := h
  refine ⟨ai, ap, an, he, ?_⟩
  have a1 := hk.blk a1 (by simp)
  obtain ⟨aw, ax, bb, b6, hr, hk, h⟩ := h
  refine ⟨aw, ax, bb, b6, hr, ?_⟩
  have a1 := hk.blk a1 (by simp)
  refine ⟨a8, a9, ⟨a1.celli 3 rfl rfl, a1.celli 4 rfl rfl, trivial⟩, ?_⟩
  refine h.mono fun bk bp h => ?_
  obtain ⟨ar, ag, al, he, hk, h⟩ := h
  refine ⟨ar, ag, al, he, ?_⟩
  have a1 := hk.blk a1 (by simp)
  obtain ⟨be, bf, az, b7, hr, hk, h⟩ := h
  refine ⟨be, bf, az, b7, hr, ?_⟩
  have a1 := hk.blk a1 (by simp)
  refine ⟨a4, a1.celli 5 rfl rfl, ?_⟩
  refine h.mono fun bo bh h => ?_
  obtain ⟨au, am, ah, he, hk, h⟩ := h
  refine ⟨au, am, ah, he, ?_⟩
  have a1 := hk.blk a1 (by simp)
  obtain ⟨b9, b1, b5, bd, hr, hk, h⟩ := h
  refine ⟨b9, b1, b5, bd, hr, ?_⟩
  have a1 := hk.blk a1 (by simp)
  refine ⟨a3, a2, a6, a1.celli 6 rfl rfl, ?_⟩
  refine h.mono fun bi bj h => ?_
  obtain ⟨ad, ac, ab, he, h⟩ := h
  refine ⟨ad, ac, ab, he, ?_⟩
  obtain ⟨b0, b8, bg, b2, hr, h⟩ := h
  refine ⟨b0, b8, bg, b2, hr, ?_⟩
  exact h

theorem Q0p.go (a0 a2 a6 a7 a8 a1 : Int) (a5 : Option Addr) (a4 a3 : Nat) (a9 : Int) {R : RW} {w : World} (h : Q0p.N a0 a2 a6 a7 a8 a1 a5 a4 a3 a9 R w) : Calls Try.prog 84 #[.agg #[.int .i64 a0, .int .i64 a2, .int .u64 a6, .int .i64 a7, .int .i64 a8, .int .i64 a1, .slice a5 a4 a3, .int .u64 a9]] w fun e w' => ∃ v, e = .returned v ∧ R v w' := Q0p.ok a0 a2 a6 a7 a8 a1 a5 a4 a3 a9 (Q0p.up a0 a2 a6 a7 a8 a1 a5 a4 a3 a9 h)
abbrev Q0l.J1 (ac : Option Addr) (ab ae : Nat) (ad : Addr) (R : RW) (a6 : World) : Prop :=
 ∃ (a3 : Int), a6.cell? (ad.add 7) = some (.int .u64 a3) ∧
 Calls Try.prog 39 #[.int .u64 a3] a6 fun a9 aa => ∃ (a1 : Option Addr) (a0 a2 : Nat), a9 = .returned (.slice a1 a0 a2) ∧
 ∃ (a7 : Option Addr) (a4 a5 : Nat) (a8 : World), (Builtin.append_ #[25, 25] 25 #[.slice ac ab ae, .slice a1 a0 a2]).run Try.prog aa = .ok (.slice a7 a4 a5) a8 ∧
 R (.tuple #[.slice a7 a4 a5, .int .i64 0]) a8

def Q0l.M (ad ai ak an ao ah : Int) (ag : Option Addr) (af aj : Nat) (al : Int) (R : RW) (w : World) : Prop :=
 thenW (w.alloc (.cells #[.int .i64 ad, .int .i64 ai, .int .u64 ak, .int .i64 an, .int .i64 ao, .int .i64 ah, .slice ag af aj, .int .u64 al] 27)) fun aq =>
 ∃ (a0 a5 a9 ae ac a2 : Int) (a1 : Option Addr) (a3 a4 : Nat) (ab : Int), cellsAt aq (blk w.heap.size) [.int .i64 a0, .int .i64 a5, .int .u64 a9, .int .i64 ae, .int .i64 ac, .int .i64 a2, .slice a1 a3 a4, .int .u64 ab] 0 ∧
 Calls Try.prog 84 #[.agg #[.int .i64 a0, .int .i64 a5, .int .u64 a9, .int .i64 ae, .int .i64 ac, .int .i64 a2, .slice a1 a3 a4, .int .u64 ab]] aq fun ap am => ∃ (a8 : Option Addr) (a7 aa : Nat) (a6 : Int), ap = .returned (.tuple #[.slice a8 a7 aa, .int .i64 a6]) ∧
 bif a6 != 0 then (
 R (.tuple #[.slice none 0 0, .int .i64 a6]) am) else (
 Q0l.J1 a8 a7 aa (blk w.heap.size) R am)

theorem Q0l.ok (a0 a2 a6 a7 a8 a1 : Int) (a5 : Option Addr) (a4 a3 : Nat) (a9 : Int) {R : RW} {w : World} (h : Q0l.M a0 a2 a6 a7 a8 a1 a5 a4 a3 a9 R w) : Calls Try.prog 64 #[.agg #[.int .i64 a0, .int .i64 a2, .int .u64 a6, .int .i64 a7, .int .i64 a8, .int .i64 a1, .slice a5 a4 a3, .int .u64 a9]] w fun e w' => ∃ v, e = .returned v ∧ R v w' :=
  Q08 follows (H := []) (args := [.agg #[.int .i64 a0, .int .i64 a2, .int .u64 a6, .int .i64 a7, .int .i64 a8, .int .i64 a1, .slice a5 a4 a3, .int .u64 a9]]) (cast (by kernel_rfl) h)

def Q0l.N (a7 ab af aj ak aa : Int) (a9 : Option Addr) (a8 ac : Nat) (ad : Int) (R : RW) (w : World) : Prop :=
 ∀ (am : World) (aq : Nat), Ext no w am → Priv w am [aq] →
 Calls Try.prog 84 #[.agg #[.int .i64 a7, .int .i64 ab, .int .u64 af, .int .i64 aj, .int .i64 ak, .int .i64 aa, .slice a9 a8 ac, .int .u64 ad]] am fun an ae => ∃ (a1 : Option Addr) (a2 a3 : Nat) (a0 : Int), an = .returned (.tuple #[.slice a1 a2 a3, .int .i64 a0]) ∧
 Keep [aq] am ae ∧
 (a0 ≠ 0 →
 R (.tuple #[.slice none 0 0, .int .i64 a0]) ae) ∧
 (a0 = 0 →
 Calls Try.prog 39 #[.int .u64 ad] ae fun ao ap => ∃ (a4 : Option Addr) (a5 a6 : Nat), ao = .returned (.slice a4 a5 a6) ∧
 ∃ (ai : Option Addr) (al ag : Nat) (ah : World), (Builtin.append_ #[25, 25] 25 #[.slice a1 a2 a3, .slice a4 a5 a6]).run Try.prog ap = .ok (.slice ai al ag) ah ∧
 R (.tuple #[.slice ai al ag, .int .i64 0]) ah)

theorem Q0l.up (a0 a4 a6 a9 aa a3 : Int) (a2 : Option Addr) (a1 a5 : Nat) (a7 : Int) {R : RW} {w : World} (h : Q0l.N a0 a4 a6 a9 aa a3 a2 a1 a5 a7 R w) : Q0l.M a0 a4 a6 a9 aa a3 a2 a1 a5 a7 R w := by
  unfold Q0l.M
  unfold Q0l.N at h
  refine Q02 fun an e9 => ?_
  have a8 := Blk.of_new e9
  have au := ((Ext.refl no w)).size
  have aq := (Ext.refl no w).x_alloc e9
  refine ⟨a0, a4, a6, a9, aa, a3, a2, a1, a5, a7, ⟨a8.celli 0 rfl rfl, a8.celli 1 rfl rfl, a8.celli 2 rfl rfl, a8.celli 3 rfl rfl, a8.celli 4 rfl rfl, a8.celli 5 rfl rfl, a8.celli 6 rfl rfl, a8.celli 7 rfl rfl, trivial⟩, ?_⟩
  have h := h an (w.heap.size) aq (Priv.cons au a8.lt Priv.nil)
  refine h.mono fun ap ao h => ?_
  obtain ⟨ab, ac, ad, ag, he, hk, h⟩ := h
  refine ⟨ab, ac, ad, ag, he, ?_⟩
  have a8 := hk.blk a8 (by simp)
  refine bif_of (fun al => ?_) (fun al => ?_)
  ·have h := h.1 (bne_t al)
   exact h
  have h := h.2 (bne_f al)
  unfold Q0l.J1
  refine ⟨a7, a8.celli 7 rfl rfl, ?_⟩
  refine h.mono fun ar av h => ?_
  obtain ⟨ae, af, ah, he, h⟩ := h
  refine ⟨ae, af, ah, he, ?_⟩
  obtain ⟨ak, am, ai, aj, hr, h⟩ := h
  refine ⟨ak, am, ai, aj, hr, ?_⟩
  exact h

theorem Q0l.go (a0 a2 a6 a7 a8 a1 : Int) (a5 : Option Addr) (a4 a3 : Nat) (a9 : Int) {R : RW} {w : World} (h : Q0l.N a0 a2 a6 a7 a8 a1 a5 a4 a3 a9 R w) : Calls Try.prog 64 #[.agg #[.int .i64 a0, .int .i64 a2, .int .u64 a6, .int .i64 a7, .int .i64 a8, .int .i64 a1, .slice a5 a4 a3, .int .u64 a9]] w fun e w' => ∃ v, e = .returned v ∧ R v w' := Q0l.ok a0 a2 a6 a7 a8 a1 a5 a4 a3 a9 (Q0l.up a0 a2 a6 a7 a8 a1 a5 a4 a3 a9 h)
abbrev Q0g.J1 (aq ah : Addr) (b7 : Option Addr) (R : RW) (b6 : World) : Prop :=
 Calls Try.prog 44 #[.pointer b7, .int .i64 1100] b6 fun b4 az => ∃ (ae : Option Addr) (ad a9 : Nat), b4 = .returned (.slice ae ad a9) ∧
 Q01 az ((aq.add 6).add 0) ∧
 thenW (az.setCell ((aq.add 6).add 0) (.slice ae ad a9)) fun b5 =>
 Calls Try.prog 45 #[.pointer b7] b5 fun b3 b1 => ∃ (ao : Int), b3 = .returned (.int .u64 ao) ∧
 Q01 b1 ((aq.add 7).add 0) ∧
 thenW (b1.setCell ((aq.add 7).add 0) (.int .u64 ao)) fun ap =>
 ∃ (a6 ai ak am al ag : Int) (aa : Option Addr) (aj af : Nat) (an : Int), cellsAt ap aq [.int .i64 a6, .int .i64 ai, .int .u64 ak, .int .i64 am, .int .i64 al, .int .i64 ag, .slice aa aj af, .int .u64 an] 0 ∧
 Q01 ap (ah.add 0) ∧
 thenW (ap.setCell (ah.add 0) (.int .i64 a6)) fun ax =>
 Q01 ax (ah.add 1) ∧
 thenW (ax.setCell (ah.add 1) (.int .i64 ai)) fun ay =>
 Q01 ay (ah.add 2) ∧
 thenW (ay.setCell (ah.add 2) (.int .u64 ak)) fun ar =>
 Q01 ar (ah.add 3) ∧
 thenW (ar.setCell (ah.add 3) (.int .i64 am)) fun b2 =>
 Q01 b2 (ah.add 4) ∧
 thenW (b2.setCell (ah.add 4) (.int .i64 al)) fun av =>
 Q01 av (ah.add 5) ∧
 thenW (av.setCell (ah.add 5) (.int .i64 ag)) fun b0 =>
 Q01 b0 (ah.add 6) ∧
 thenW (b0.setCell (ah.add 6) (.slice aa aj af)) fun au =>
 Q01 au (ah.add 7) ∧
 thenW (au.setCell (ah.add 7) (.int .u64 an)) fun aw =>
 ∃ (a0 a1 a8 ab ac a3 : Int) (a4 : Option Addr) (a5 a2 : Nat) (a7 : Int), cellsAt aw ah [.int .i64 a0, .int .i64 a1, .int .u64 a8, .int .i64 ab, .int .i64 ac, .int .i64 a3, .slice a4 a5 a2, .int .u64 a7] 0 ∧
 R (.agg #[.int .i64 a0, .int .i64 a1, .int .u64 a8, .int .i64 ab, .int .i64 ac, .int .i64 a3, .slice a4 a5 a2, .int .u64 a7]) aw

def Q0g.M (r1 : Option Addr) (R : RW) (w : World) : Prop :=
 thenW (w.alloc (.cells #[.int .i64 0, .int .i64 0, .int .u64 0, .int .i64 0, .int .i64 0, .int .i64 0, .slice none 0 0, .int .u64 0] 27)) fun a0 =>
 thenW (a0.alloc (.cells #[.int .i64 0, .int .i64 0, .int .u64 0, .int .i64 0, .int .i64 0, .int .i64 0, .slice none 0 0, .int .u64 0] 27)) fun aw =>
 Q01 aw ((blk a0.heap.size).add 0) ∧
 thenW (aw.setCell ((blk a0.heap.size).add 0) (.int .i64 0)) fun ap =>
 Q01 ap ((blk a0.heap.size).add 1) ∧
 thenW (ap.setCell ((blk a0.heap.size).add 1) (.int .i64 0)) fun az =>
 Q01 az ((blk a0.heap.size).add 2) ∧
 thenW (az.setCell ((blk a0.heap.size).add 2) (.int .u64 0)) fun av =>
 Q01 av ((blk a0.heap.size).add 3) ∧
 thenW (av.setCell ((blk a0.heap.size).add 3) (.int .i64 0)) fun ay =>
 Q01 ay ((blk a0.heap.size).add 4) ∧
 thenW (ay.setCell ((blk a0.heap.size).add 4) (.int .i64 0)) fun ar =>
 Q01 ar ((blk a0.heap.size).add 5) ∧
 thenW (ar.setCell ((blk a0.heap.size).add 5) (.int .i64 0)) fun au =>
 Q01 au ((blk a0.heap.size).add 6) ∧
 thenW (au.setCell ((blk a0.heap.size).add 6) (.slice none 0 0)) fun a6 =>
 Q01 a6 ((blk a0.heap.size).add 7) ∧
 thenW (a6.setCell ((blk a0.heap.size).add 7) (.int .u64 0)) fun am =>
 Calls Try.prog 43 #[.pointer r1, .int .i64 7] am fun ak a8 => ∃ (a3 : Int), ak = .returned (.int .i64 a3) ∧
 Q01 a8 (((blk a0.heap.size).add 0).add 0) ∧
 thenW (a8.setCell (((blk a0.heap.size).add 0).add 0) (.int .i64 a3)) fun af =>
 Calls Try.prog 43 #[.pointer r1, .int .i64 199] af fun ao ac => ∃ (a1 : Int), ao = .returned (.int .i64 a1) ∧
 Q01 ac (((blk a0.heap.size).add 1).add 0) ∧
 thenW (ac.setCell (((blk a0.heap.size).add 1).add 0) (.int .i64 a1)) fun ag =>
 Calls Try.prog 45 #[.pointer r1] ag fun ah ad => ∃ (a5 : Int), ah = .returned (.int .u64 a5) ∧
 Q01 ad (((blk a0.heap.size).add 2).add 0) ∧
 thenW (ad.setCell (((blk a0.heap.size).add 2).add 0) (.int .u64 a5)) fun ai =>
 Calls Try.prog 85 #[.pointer r1] ai fun an aa => ∃ (ax aq : Int), an = .returned (.agg #[.int .i64 ax, .int .i64 aq]) ∧
 Q01 aa (((blk a0.heap.size).add 3).add 0) ∧
 thenW (aa.setCell (((blk a0.heap.size).add 3).add 0) (.int .i64 ax)) fun a7 =>
 Q01 a7 (((blk a0.heap.size).add 3).add 1) ∧
 thenW (a7.setCell (((blk a0.heap.size).add 3).add 1) (.int .i64 aq)) fun al =>
 Calls Try.prog 86 #[.pointer r1] al fun aj a9 => ∃ (a2 : Int), aj = .returned (.int .i64 a2) ∧
 Q01 a9 (((blk a0.heap.size).add 5).add 0) ∧
 thenW (a9.setCell (((blk a0.heap.size).add 5).add 0) (.int .i64 a2)) fun a4 =>
 bif decide (a2 < (-1)) then (
 Q01 a4 (((blk a0.heap.size).add 5).add 0) ∧
 thenW (a4.setCell (((blk a0.heap.size).add 5).add 0) (.int .i64 (-9))) fun ae =>
 Q0g.J1 (blk a0.heap.size) (blk w.heap.size) r1 R ae) else (
 bif decide (a2 > 20) then (
 Q01 a4 (((blk a0.heap.size).add 5).add 0) ∧
 thenW (a4.setCell (((blk a0.heap.size).add 5).add 0) (.int .i64 (-9))) fun ab =>
 Q0g.J1 (blk a0.heap.size) (blk w.heap.size) r1 R ab) else (
 Q0g.J1 (blk a0.heap.size) (blk w.heap.size) r1 R a4))

theorem Q0g.ok (r1 : Option Addr) {R : RW} {w : World} (h : Q0g.M r1 R w) : Calls Try.prog 66 #[.pointer r1] w fun e w' => ∃ v, e = .returned v ∧ R v w' :=
  Q08 follows (H := []) (args := [.pointer r1]) (cast (by kernel_rfl) h)

def Q0g.N (r1 : Option Addr) (R : RW) (w : World) : Prop :=
 ∀ (ag : World) (ad a0 : Nat), Ext no w ag → Priv w ag [ad, a0] →
 Calls Try.prog 43 #[.pointer r1, .int .i64 7] ag fun bh b6 => ∃ (a1 : Int), bh = .returned (.int .i64 a1) ∧
 Keep [ad, a0] ag b6 ∧
 ∀ (ak : World), Ext (fun b => b = a0) b6 ak →
 Calls Try.prog 43 #[.pointer r1, .int .i64 199] ak fun bc b2 => ∃ (a2 : Int), bc = .returned (.int .i64 a2) ∧
 Keep [ad, a0] ak b2 ∧
 ∀ (ar : World), Ext (fun b => b = a0) b2 ar →
 Calls Try.prog 45 #[.pointer r1] ar fun be b1 => ∃ (ae : Int), be = .returned (.int .u64 ae) ∧
 Keep [ad, a0] ar b1 ∧
 ∀ (aq : World), Ext (fun b => b = a0) b1 aq →
 Calls Try.prog 85 #[.pointer r1] aq fun bd b4 => ∃ (b9 ba : Int), bd = .returned (.agg #[.int .i64 b9, .int .i64 ba]) ∧
 Keep [ad, a0] aq b4 ∧
 ∀ (ao : World), Ext (fun b => b = a0) b4 ao →
 Calls Try.prog 86 #[.pointer r1] ao fun bg af => ∃ (a3 : Int), bg = .returned (.int .i64 a3) ∧
 Keep [ad, a0] ao af ∧
 (a3 < (-1) →
 ∀ (au : World), Ext (fun b => b = a0) af au →
 Calls Try.prog 44 #[.pointer r1, .int .i64 1100] au fun bj b8 => ∃ (a6 : Option Addr) (aa ab : Nat), bj = .returned (.slice a6 aa ab) ∧
 Keep [ad, a0] au b8 ∧
 ∀ (am : World), Ext (fun b => b = a0) b8 am →
 Calls Try.prog 45 #[.pointer r1] am fun bk ax => ∃ (aj : Int), bk = .returned (.int .u64 aj) ∧
 Keep [ad, a0] am ax ∧
 ∀ (b0 : World), Ext (fun b => b = ad ∨ b = a0) ax b0 →
 R (.agg #[.int .i64 a1, .int .i64 a2, .int .u64 ae, .int .i64 b9, .int .i64 ba, .int .i64 (-9), .slice a6 aa ab, .int .u64 aj]) b0) ∧
 (((-1) : Int) ≤ a3 →
 (a3 > 20 →
 ∀ (ap : World), Ext (fun b => b = a0) af ap →
 Calls Try.prog 44 #[.pointer r1, .int .i64 1100] ap fun bf ay => ∃ (a7 : Option Addr) (a8 a4 : Nat), bf = .returned (.slice a7 a8 a4) ∧
 Keep [ad, a0] ap ay ∧
 ∀ (al : World), Ext (fun b => b = a0) ay al →
 Calls Try.prog 45 #[.pointer r1] al fun bl b3 => ∃ (ah : Int), bl = .returned (.int .u64 ah) ∧
 Keep [ad, a0] al b3 ∧
 ∀ (b5 : World), Ext (fun b => b = ad ∨ b = a0) b3 b5 →
 R (.agg #[.int .i64 a1, .int .i64 a2, .int .u64 ae, .int .i64 b9, .int .i64 ba, .int .i64 (-9), .slice a7 a8 a4, .int .u64 ah]) b5) ∧
 (a3 ≤ 20 →
 ∀ (an : World), Ext (fun b => b = a0) af an →
 Calls Try.prog 44 #[.pointer r1, .int .i64 1100] an fun bb b7 => ∃ (ac : Option Addr) (a9 a5 : Nat), bb = .returned (.slice ac a9 a5) ∧
 Keep [ad, a0] an b7 ∧
 ∀ (av : World), Ext (fun b => b = a0) b7 av →
 Calls Try.prog 45 #[.pointer r1] av fun bi az => ∃ (ai : Int), bi = .returned (.int .u64 ai) ∧
 Keep [ad, a0] av az ∧
 ∀ (aw : World), Ext (fun b => b = ad ∨ b = a0) az aw →
 R (.agg #[.int .i64 a1, .int .i64 a2, .int .u64 ae, .int .i64 b9, .int .i64 ba, .int .i64 a3, .slice ac a9 a5, .int .u64 ai]) aw))

theorem Q0g.up (r1 : Option Addr) {R : RW} {w : World} (h : Q0g.N r1 R w) : Q0g.M r1 R w := by
  unfold Q0g.M
  unfold Q0g.N at h
  refine Q02 fun a5 e2 => ?_
  have a2 := Blk.of_new e2
  have ee := ((Ext.refl no w)).size
  have df := (Ext.refl no w).x_alloc e2
  refine Q02 fun el e3 => ?_
  have a3 := Blk.of_new e3
  have ai := (df).size
  have a6 := Nat.ne_of_lt a2.lt
  have a2 := a2.x_alloc e3
  have ec := df.x_alloc e3
  refine ⟨a3.cani 0 rfl rfl, Q02 fun dw e4 => ?_⟩
  have dz := ec.x_set (q := a5.heap.size) (i := 0) rfl (.inr ai) e4
  have a2 := a2.oth (q := a5.heap.size) (i := 0) rfl a6 e4
  have a3 : Blk dw a5.heap.size 27 [.int .i64 0, .int .i64 0, .int .u64 0, .int .i64 0, .int .i64 0, .int .i64 0, .slice none 0 0, .int .u64 0] := a3.seti 0 rfl e4
  refine ⟨a3.cani 1 rfl rfl, Q02 fun eg e5 => ?_⟩
  have dr := dz.x_set (q := a5.heap.size) (i := 1) rfl (.inr ai) e5
  have a2 := a2.oth (q := a5.heap.size) (i := 1) rfl a6 e5
  have a3 : Blk eg a5.heap.size 27 [.int .i64 0, .int .i64 0, .int .u64 0, .int .i64 0, .int .i64 0, .int .i64 0, .slice none 0 0, .int .u64 0] := a3.seti 1 rfl e5
  refine ⟨a3.cani 2 rfl rfl, Q02 fun dt e6 => ?_⟩
  have e1 := dr.x_set (q := a5.heap.size) (i := 2) rfl (.inr ai) e6
  have a2 := a2.oth (q := a5.heap.size) (i := 2) rfl a6 e6
  have a3 : Blk dt a5.heap.size 27 [.int .i64 0, .int .i64 0, .int .u64 0, .int .i64 0, .int .i64 0, .int .i64 0, .slice none 0 0, .int .u64 0] := a3.seti 2 rfl e6
  refine ⟨a3.cani 3 rfl rfl, Q02 fun du e7 => ?_⟩
  have dy := e1.x_set (q := a5.heap.size) (i := 3) rfl (.inr ai) e7
  have a2 := a2.oth (q := a5.heap.size) (i := 3) rfl a6 e7
  have a3 : Blk du a5.heap.size 27 [.int .i64 0, .int .i64 0, .int .u64 0, .int .i64 0, .int .i64 0, .int .i64 0, .slice none 0 0, .int .u64 0] := a3.seti 3 rfl e7
  refine ⟨a3.cani 4 rfl rfl, Q02 fun ef e8 => ?_⟩
  have ek := dy.x_set (q := a5.heap.size) (i := 4) rfl (.inr ai) e8
  have a2 := a2.oth (q := a5.heap.size) (i := 4) rfl a6 e8
  have a3 : Blk ef a5.heap.size 27 [.int .i64 0, .int .i64 0, .int .u64 0, .int .i64 0, .int .i64 0, .int .i64 0, .slice none 0 0, .int .u64 0] := a3.seti 4 rfl e8
  refine ⟨a3.cani 5 rfl rfl, Q02 fun e0 e9 => ?_⟩
  have dv := ek.x_set (q := a5.heap.size) (i := 5) rfl (.inr ai) e9
  have a2 := a2.oth (q := a5.heap.size) (i := 5) rfl a6 e9
  have a3 : Blk e0 a5.heap.size 27 [.int .i64 0, .int .i64 0, .int .u64 0, .int .i64 0, .int .i64 0, .int .i64 0, .slice none 0 0, .int .u64 0] := a3.seti 5 rfl e9
  refine ⟨a3.cani 6 rfl rfl, Q02 fun cn ci => ?_⟩
  have d3 := dv.x_set (q := a5.heap.size) (i := 6) rfl (.inr ai) ci
  have a2 := a2.oth (q := a5.heap.size) (i := 6) rfl a6 ci
  have a3 : Blk cn a5.heap.size 27 [.int .i64 0, .int .i64 0, .int .u64 0, .int .i64 0, .int .i64 0, .int .i64 0, .slice none 0 0, .int .u64 0] := a3.seti 6 rfl ci
  refine ⟨a3.cani 7 rfl rfl, Q02 fun ax bj => ?_⟩
  have cp := d3.x_set (q := a5.heap.size) (i := 7) rfl (.inr ai) bj
  have a2 := a2.oth (q := a5.heap.size) (i := 7) rfl a6 bj
  have a3 : Blk ax a5.heap.size 27 [.int .i64 0, .int .i64 0, .int .u64 0, .int .i64 0, .int .i64 0, .int .i64 0, .slice none 0 0, .int .u64 0] := a3.seti 7 rfl bj
  have h := h ax (w.heap.size) (a5.heap.size) cp (Priv.cons ee a2.lt (Priv.cons ai a3.lt Priv.nil))
  refine h.mono fun eh av h => ?_
  obtain ⟨a0, he, hk, h⟩ := h
  refine ⟨a0, he, ?_⟩
  have a2 := hk.blk a2 (by simp)
  have a3 := hk.blk a3 (by simp)
  have cl : Ext (fun b => b = a5.heap.size) av av := ((Ext.refl no av)).none
  refine ⟨a3.cani 0 rfl rfl, Q02 fun b8 cr => ?_⟩
  have bu := cl.x_set (q := a5.heap.size) (i := 0) rfl (.inl rfl) cr
  have a2 := a2.oth (q := a5.heap.size) (i := 0) rfl a6 cr
  have a3 : Blk b8 a5.heap.size 27 [.int .i64 a0, .int .i64 0, .int .u64 0, .int .i64 0, .int .i64 0, .int .i64 0, .slice none 0 0, .int .u64 0] := a3.seti 0 rfl cr
  have h := h b8 bu
  refine h.mono fun dq au h => ?_
  obtain ⟨a1, he, hk, h⟩ := h
  refine ⟨a1, he, ?_⟩
  have a2 := hk.blk a2 (by simp)
  have a3 := hk.blk a3 (by simp)
  have c6 : Ext (fun b => b = a5.heap.size) au au := ((Ext.refl no au)).none
  refine ⟨a3.cani 1 rfl rfl, Q02 fun b1 bl => ?_⟩
  have d7 := c6.x_set (q := a5.heap.size) (i := 1) rfl (.inl rfl) bl
  have a2 := a2.oth (q := a5.heap.size) (i := 1) rfl a6 bl
  have a3 : Blk b1 a5.heap.size 27 [.int .i64 a0, .int .i64 a1, .int .u64 0, .int .i64 0, .int .i64 0, .int .i64 0, .slice none 0 0, .int .u64 0] := a3.seti 1 rfl bl
  have h := h b1 d7
  refine h.mono fun ds am h => ?_
  obtain ⟨a4, he, hk, h⟩ := h
  refine ⟨a4, he, ?_⟩
  have a2 := hk.blk a2 (by simp)
  have a3 := hk.blk a3 (by simp)
  have bg : Ext (fun b => b = a5.heap.size) am am := ((Ext.refl no am)).none
  refine ⟨a3.cani 2 rfl rfl, Q02 fun b0 d5 => ?_⟩
  have ct := bg.x_set (q := a5.heap.size) (i := 2) rfl (.inl rfl) d5
  have a2 := a2.oth (q := a5.heap.size) (i := 2) rfl a6 d5
  have a3 : Blk b0 a5.heap.size 27 [.int .i64 a0, .int .i64 a1, .int .u64 a4, .int .i64 0, .int .i64 0, .int .i64 0, .slice none 0 0, .int .u64 0] := a3.seti 2 rfl d5
  have h := h b0 ct
  refine h.mono fun ea ap h => ?_
  obtain ⟨ae, af, he, hk, h⟩ := h
  refine ⟨ae, af, he, ?_⟩
  have a2 := hk.blk a2 (by simp)
  have a3 := hk.blk a3 (by simp)
  have ca : Ext (fun b => b = a5.heap.size) ap ap := ((Ext.refl no ap)).none
  refine ⟨a3.cani 3 rfl rfl, Q02 fun c4 cf => ?_⟩
  have cg := ca.x_set (q := a5.heap.size) (i := 3) rfl (.inl rfl) cf
  have a2 := a2.oth (q := a5.heap.size) (i := 3) rfl a6 cf
  have a3 : Blk c4 a5.heap.size 27 [.int .i64 a0, .int .i64 a1, .int .u64 a4, .int .i64 ae, .int .i64 0, .int .i64 0, .slice none 0 0, .int .u64 0] := a3.seti 3 rfl cf
  refine ⟨a3.cani 4 rfl rfl, Q02 fun b5 bn => ?_⟩
  have ce := cg.x_set (q := a5.heap.size) (i := 4) rfl (.inl rfl) bn
  have a2 := a2.oth (q := a5.heap.size) (i := 4) rfl a6 bn
  have a3 : Blk b5 a5.heap.size 27 [.int .i64 a0, .int .i64 a1, .int .u64 a4, .int .i64 ae, .int .i64 af, .int .i64 0, .slice none 0 0, .int .u64 0] := a3.seti 4 rfl bn
  have h := h b5 ce
  refine h.mono fun eb ao h => ?_
  obtain ⟨ad, he, hk, h⟩ := h
  refine ⟨ad, he, ?_⟩
  have a2 := hk.blk a2 (by simp)
  have a3 := hk.blk a3 (by simp)
  have cm : Ext (fun b => b = a5.heap.size) ao ao := ((Ext.refl no ao)).none
  refine ⟨a3.cani 5 rfl rfl, Q02 fun b4 bd => ?_⟩
  have an := cm.x_set (q := a5.heap.size) (i := 5) rfl (.inl rfl) bd
  have a2 := a2.oth (q := a5.heap.size) (i := 5) rfl a6 bd
  have a3 : Blk b4 a5.heap.size 27 [.int .i64 a0, .int .i64 a1, .int .u64 a4, .int .i64 ae, .int .i64 af, .int .i64 ad, .slice none 0 0, .int .u64 0] := a3.seti 5 rfl bd
  refine bif_of (fun ba => ?_) (fun ba => ?_)
  have h := h.1 (of_decide_eq_true ba)
  refine ⟨a3.cani 5 rfl rfl, Q02 fun al ch => ?_⟩
  have b2 := an.x_set (q := a5.heap.size) (i := 5) rfl (.inl rfl) ch
  have a2 := a2.oth (q := a5.heap.size) (i := 5) rfl a6 ch
  have a3 : Blk al a5.heap.size 27 [.int .i64 a0, .int .i64 a1, .int .u64 a4, .int .i64 ae, .int .i64 af, .int .i64 (-9), .slice none 0 0, .int .u64 0] := a3.seti 5 rfl ch
  rotate_left
  have h := h.2 (Int.not_lt.1 (of_decide_eq_false ba))
  refine bif_fo (fun c0 => ?_) (fun c0 => ?_)
  ·have h := h.2 (Int.not_lt.1 (of_decide_eq_false c0))
   unfold Q0g.J1
   have h := h b4 an
   refine h.mono fun dx aq h => ?_
   obtain ⟨a9, ab, a7, he, hk, h⟩ := h
   refine ⟨a9, ab, a7, he, ?_⟩
   have a2 := hk.blk a2 (by simp)
   have a3 := hk.blk a3 (by simp)
   have bo : Ext (fun b => b = a5.heap.size) aq aq := ((Ext.refl no aq)).none
   refine ⟨a3.cani 6 rfl rfl, Q02 fun b7 ck => ?_⟩
   have cu := bo.x_set (q := a5.heap.size) (i := 6) rfl (.inl rfl) ck
   have a2 := a2.oth (q := a5.heap.size) (i := 6) rfl a6 ck
   have a3 : Blk b7 a5.heap.size 27 [.int .i64 a0, .int .i64 a1, .int .u64 a4, .int .i64 ae, .int .i64 af, .int .i64 ad, .slice a9 ab a7, .int .u64 0] := a3.seti 6 rfl ck
   have h := h b7 cu
   refine h.mono fun ei ak h => ?_
   obtain ⟨ag, he, hk, h⟩ := h
   refine ⟨ag, he, ?_⟩
   have a2 := hk.blk a2 (by simp)
   have a3 := hk.blk a3 (by simp)
   have cq : Ext (fun b => b = a5.heap.size) ak ak := ((Ext.refl no ak)).none
   refine ⟨a3.cani 7 rfl rfl, Q02 fun b6 c3 => ?_⟩
   have d0 := cq.x_set (q := a5.heap.size) (i := 7) rfl (.inl rfl) c3
   have a2 := a2.oth (q := a5.heap.size) (i := 7) rfl a6 c3
   have a3 : Blk b6 a5.heap.size 27 [.int .i64 a0, .int .i64 a1, .int .u64 a4, .int .i64 ae, .int .i64 af, .int .i64 ad, .slice a9 ab a7, .int .u64 ag] := a3.seti 7 rfl c3
   refine ⟨a0, a1, a4, ae, af, ad, a9, ab, a7, ag, ⟨a3.celli 0 rfl rfl, a3.celli 1 rfl rfl, a3.celli 2 rfl rfl, a3.celli 3 rfl rfl, a3.celli 4 rfl rfl, a3.celli 5 rfl rfl, a3.celli 6 rfl rfl, a3.celli 7 rfl rfl, trivial⟩, ?_⟩
   have bh : Ext (fun b => b = w.heap.size ∨ b = a5.heap.size) ak b6 := (d0).mono fun _ h _ => .inr h
   refine ⟨a2.cani 0 rfl rfl, Q02 fun d1 dn => ?_⟩
   have c9 := bh.x_set (q := w.heap.size) (i := 0) rfl (.inl (.inl rfl)) dn
   have a2 : Blk d1 w.heap.size 27 [.int .i64 a0, .int .i64 0, .int .u64 0, .int .i64 0, .int .i64 0, .int .i64 0, .slice none 0 0, .int .u64 0] := a2.seti 0 rfl dn
   refine ⟨a2.cani 1 rfl rfl, Q02 fun cx d9 => ?_⟩
   have cc := c9.x_set (q := w.heap.size) (i := 1) rfl (.inl (.inl rfl)) d9
   have a2 : Blk cx w.heap.size 27 [.int .i64 a0, .int .i64 a1, .int .u64 0, .int .i64 0, .int .i64 0, .int .i64 0, .slice none 0 0, .int .u64 0] := a2.seti 1 rfl d9
   refine ⟨a2.cani 2 rfl rfl, Q02 fun d4 di => ?_⟩
   have cb := cc.x_set (q := w.heap.size) (i := 2) rfl (.inl (.inl rfl)) di
   have a2 : Blk d4 w.heap.size 27 [.int .i64 a0, .int .i64 a1, .int .u64 a4, .int .i64 0, .int .i64 0, .int .i64 0, .slice none 0 0, .int .u64 0] := a2.seti 2 rfl di
   refine ⟨a2.cani 3 rfl rfl, Q02 fun bs d8 => ?_⟩
   have cj := cb.x_set (q := w.heap.size) (i := 3) rfl (.inl (.inl rfl)) d8
   have a2 : Blk bs w.heap.size 27 [.int .i64 a0, .int .i64 a1, .int .u64 a4, .int .i64 ae, .int .i64 0, .int .i64 0, .slice none 0 0, .int .u64 0] := a2.seti 3 rfl d8
   refine ⟨a2.cani 4 rfl rfl, Q02 fun bi dh => ?_⟩
   have b9 := cj.x_set (q := w.heap.size) (i := 4) rfl (.inl (.inl rfl)) dh
   have a2 : Blk bi w.heap.size 27 [.int .i64 a0, .int .i64 a1, .int .u64 a4, .int .i64 ae, .int .i64 af, .int .i64 0, .slice none 0 0, .int .u64 0] := a2.seti 4 rfl dh
   refine ⟨a2.cani 5 rfl rfl, Q02 fun cv de => ?_⟩
   have bt := b9.x_set (q := w.heap.size) (i := 5) rfl (.inl (.inl rfl)) de
   have a2 : Blk cv w.heap.size 27 [.int .i64 a0, .int .i64 a1, .int .u64 a4, .int .i64 ae, .int .i64 af, .int .i64 ad, .slice none 0 0, .int .u64 0] := a2.seti 5 rfl de
   refine ⟨a2.cani 6 rfl rfl, Q02 fun cy db => ?_⟩
   have cd := bt.x_set (q := w.heap.size) (i := 6) rfl (.inl (.inl rfl)) db
   have a2 : Blk cy w.heap.size 27 [.int .i64 a0, .int .i64 a1, .int .u64 a4, .int .i64 ae, .int .i64 af, .int .i64 ad, .slice a9 ab a7, .int .u64 0] := a2.seti 6 rfl db
   refine ⟨a2.cani 7 rfl rfl, Q02 fun aw dc => ?_⟩
   have bx := cd.x_set (q := w.heap.size) (i := 7) rfl (.inl (.inl rfl)) dc
   have a2 : Blk aw w.heap.size 27 [.int .i64 a0, .int .i64 a1, .int .u64 a4, .int .i64 ae, .int .i64 af, .int .i64 ad, .slice a9 ab a7, .int .u64 ag] := a2.seti 7 rfl dc
   refine ⟨a0, a1, a4, ae, af, ad, a9, ab, a7, ag, ⟨a2.celli 0 rfl rfl, a2.celli 1 rfl rfl, a2.celli 2 rfl rfl, a2.celli 3 rfl rfl, a2.celli 4 rfl rfl, a2.celli 5 rfl rfl, a2.celli 6 rfl rfl, a2.celli 7 rfl rfl, trivial⟩, ?_⟩
   have h := h aw bx
   exact h
  have h := h.1 (of_decide_eq_true c0)
  refine ⟨a3.cani 5 rfl rfl, Q02 fun al bw => ?_⟩
  have b2 := an.x_set (q := a5.heap.size) (i := 5) rfl (.inl rfl) bw
  have a2 := a2.oth (q := a5.heap.size) (i := 5) rfl a6 bw
  have a3 : Blk al a5.heap.size 27 [.int .i64 a0, .int .i64 a1, .int .u64 a4, .int .i64 ae, .int .i64 af, .int .i64 (-9), .slice none 0 0, .int .u64 0] := a3.seti 5 rfl bw
  rotate_left
  all_goals
   unfold Q0g.J1
   have h := h al b2
   refine h.mono fun ej ar h => ?_
   obtain ⟨aa, a8, ac, he, hk, h⟩ := h
   refine ⟨aa, a8, ac, he, ?_⟩
   have a2 := hk.blk a2 (by simp)
   have a3 := hk.blk a3 (by simp)
   have be : Ext (fun b => b = a5.heap.size) ar ar := ((Ext.refl no ar)).none
   refine ⟨a3.cani 6 rfl rfl, Q02 fun az co => ?_⟩
   have cs := be.x_set (q := a5.heap.size) (i := 6) rfl (.inl rfl) co
   have a2 := a2.oth (q := a5.heap.size) (i := 6) rfl a6 co
   have a3 : Blk az a5.heap.size 27 [.int .i64 a0, .int .i64 a1, .int .u64 a4, .int .i64 ae, .int .i64 af, .int .i64 (-9), .slice aa a8 ac, .int .u64 0] := a3.seti 6 rfl co
   have h := h az cs
   refine h.mono fun ed aj h => ?_
   obtain ⟨ah, he, hk, h⟩ := h
   refine ⟨ah, he, ?_⟩
   have a2 := hk.blk a2 (by simp)
   have a3 := hk.blk a3 (by simp)
   have bq : Ext (fun b => b = a5.heap.size) aj aj := ((Ext.refl no aj)).none
   refine ⟨a3.cani 7 rfl rfl, Q02 fun ay c2 => ?_⟩
   have bk := bq.x_set (q := a5.heap.size) (i := 7) rfl (.inl rfl) c2
   have a2 := a2.oth (q := a5.heap.size) (i := 7) rfl a6 c2
   have a3 : Blk ay a5.heap.size 27 [.int .i64 a0, .int .i64 a1, .int .u64 a4, .int .i64 ae, .int .i64 af, .int .i64 (-9), .slice aa a8 ac, .int .u64 ah] := a3.seti 7 rfl c2
   refine ⟨a0, a1, a4, ae, af, (-9), aa, a8, ac, ah, ⟨a3.celli 0 rfl rfl, a3.celli 1 rfl rfl, a3.celli 2 rfl rfl, a3.celli 3 rfl rfl, a3.celli 4 rfl rfl, a3.celli 5 rfl rfl, a3.celli 6 rfl rfl, a3.celli 7 rfl rfl, trivial⟩, ?_⟩
   have bf : Ext (fun b => b = w.heap.size ∨ b = a5.heap.size) aj ay := (bk).mono fun _ h _ => .inr h
   refine ⟨a2.cani 0 rfl rfl, Q02 fun d6 dp => ?_⟩
   have bz := bf.x_set (q := w.heap.size) (i := 0) rfl (.inl (.inl rfl)) dp
   have a2 : Blk d6 w.heap.size 27 [.int .i64 a0, .int .i64 0, .int .u64 0, .int .i64 0, .int .i64 0, .int .i64 0, .slice none 0 0, .int .u64 0] := a2.seti 0 rfl dp
   refine ⟨a2.cani 1 rfl rfl, Q02 fun c5 dl => ?_⟩
   have bv := bz.x_set (q := w.heap.size) (i := 1) rfl (.inl (.inl rfl)) dl
   have a2 : Blk c5 w.heap.size 27 [.int .i64 a0, .int .i64 a1, .int .u64 0, .int .i64 0, .int .i64 0, .int .i64 0, .slice none 0 0, .int .u64 0] := a2.seti 1 rfl dl
   refine ⟨a2.cani 2 rfl rfl, Q02 fun d2 dg => ?_⟩
   have cw := bv.x_set (q := w.heap.size) (i := 2) rfl (.inl (.inl rfl)) dg
   have a2 : Blk d2 w.heap.size 27 [.int .i64 a0, .int .i64 a1, .int .u64 a4, .int .i64 0, .int .i64 0, .int .i64 0, .slice none 0 0, .int .u64 0] := a2.seti 2 rfl dg
   refine ⟨a2.cani 3 rfl rfl, Q02 fun c8 dm => ?_⟩
   have cz := cw.x_set (q := w.heap.size) (i := 3) rfl (.inl (.inl rfl)) dm
   have a2 : Blk c8 w.heap.size 27 [.int .i64 a0, .int .i64 a1, .int .u64 a4, .int .i64 ae, .int .i64 0, .int .i64 0, .slice none 0 0, .int .u64 0] := a2.seti 3 rfl dm
   refine ⟨a2.cani 4 rfl rfl, Q02 fun c7 da => ?_⟩
   have bm := cz.x_set (q := w.heap.size) (i := 4) rfl (.inl (.inl rfl)) da
   have a2 : Blk c7 w.heap.size 27 [.int .i64 a0, .int .i64 a1, .int .u64 a4, .int .i64 ae, .int .i64 af, .int .i64 0, .slice none 0 0, .int .u64 0] := a2.seti 4 rfl da
   refine ⟨a2.cani 5 rfl rfl, Q02 fun c1 dd => ?_⟩
   have bp := bm.x_set (q := w.heap.size) (i := 5) rfl (.inl (.inl rfl)) dd
   have a2 : Blk c1 w.heap.size 27 [.int .i64 a0, .int .i64 a1, .int .u64 a4, .int .i64 ae, .int .i64 af, .int .i64 (-9), .slice none 0 0, .int .u64 0] := a2.seti 5 rfl dd
   refine ⟨a2.cani 6 rfl rfl, Q02 fun bb dk => ?_⟩
   have bc := bp.x_set (q := w.heap.size) (i := 6) rfl (.inl (.inl rfl)) dk
   have a2 : Blk bb w.heap.size 27 [.int .i64 a0, .int .i64 a1, .int .u64 a4, .int .i64 ae, .int .i64 af, .int .i64 (-9), .slice aa a8 ac, .int .u64 0] := a2.seti 6 rfl dk
   refine ⟨a2.cani 7 rfl rfl, Q02 fun b3 dj => ?_⟩
   have br := bc.x_set (q := w.heap.size) (i := 7) rfl (.inl (.inl rfl)) dj
   have a2 : Blk b3 w.heap.size 27 [.int .i64 a0, .int .i64 a1, .int .u64 a4, .int .i64 ae, .int .i64 af, .int .i64 (-9), .slice aa a8 ac, .int .u64 ah] := a2.seti 7 rfl dj
   refine ⟨a0, a1, a4, ae, af, (-9), aa, a8, ac, ah, ⟨a2.celli 0 rfl rfl, a2.celli 1 rfl rfl, a2.celli 2 rfl rfl, a2.celli 3 rfl rfl, a2.celli 4 rfl rfl, a2.celli 5 rfl rfl, a2.celli 6 rfl rfl, a2.celli 7 rfl rfl, trivial⟩, ?_⟩
   have h := h b3 br
   exact h

theorem Q0g.go (r1 : Option Addr) {R : RW} {w : World} (h : Q0g.N r1 R w) : Calls Try.prog 66 #[.pointer r1] w fun e w' => ∃ v, e = .returned v ∧ R v w' := Q0g.ok r1 (Q0g.up r1 h)
abbrev Q0i.J1 (br a0 : Addr) (R : RW) (bj : World) : Prop :=
 ∃ (aj az b4 b6 b7 ay : Int) (av : Option Addr) (ax aw : Nat) (b5 : Int), cellsAt bj br [.int .i64 aj, .int .i64 az, .int .u64 b4, .int .i64 b6, .int .i64 b7, .int .i64 ay, .slice av ax aw, .int .u64 b5] 0 ∧
 Calls Try.prog 49 #[.agg #[.int .i64 aj, .int .i64 az, .int .u64 b4, .int .i64 b6, .int .i64 b7, .int .i64 ay, .slice av ax aw, .int .u64 b5]] bj fun bq b8 => ∃ (b1 : Bool), bq = .returned (.bool b1) ∧
 bif !b1 then (
 Q01 b8 (a0.add 0) ∧
 thenW (b8.setCell (a0.add 0) (.int .i64 0)) fun bm =>
 Q01 bm (a0.add 1) ∧
 thenW (bm.setCell (a0.add 1) (.int .i64 0)) fun bn =>
 Q01 bn (a0.add 2) ∧
 thenW (bn.setCell (a0.add 2) (.int .u64 0)) fun bh =>
 Q01 bh (a0.add 3) ∧
 thenW (bh.setCell (a0.add 3) (.int .i64 0)) fun bp =>
 Q01 bp (a0.add 4) ∧
 thenW (bp.setCell (a0.add 4) (.int .i64 0)) fun bk =>
 Q01 bk (a0.add 5) ∧
 thenW (bk.setCell (a0.add 5) (.int .i64 0)) fun bo =>
 Q01 bo (a0.add 6) ∧
 thenW (bo.setCell (a0.add 6) (.slice none 0 0)) fun bi =>
 Q01 bi (a0.add 7) ∧
 thenW (bi.setCell (a0.add 7) (.int .u64 0)) fun bl =>
 ∃ (a7 a8 ao aq ar aa : Int) (ad : Option Addr) (ae a9 : Nat) (ai : Int), cellsAt bl a0 [.int .i64 a7, .int .i64 a8, .int .u64 ao, .int .i64 aq, .int .i64 ar, .int .i64 aa, .slice ad ae a9, .int .u64 ai] 0 ∧
 R (.tuple #[.agg #[.int .i64 a7, .int .i64 a8, .int .u64 ao, .int .i64 aq, .int .i64 ar, .int .i64 aa, .slice ad ae a9, .int .u64 ai], .int .i64 4]) bl) else (
 ∃ (ac ag au b3 b2 ah : Int) (an : Option Addr) (ak ap : Nat) (b0 : Int), cellsAt b8 br [.int .i64 ac, .int .i64 ag, .int .u64 au, .int .i64 b3, .int .i64 b2, .int .i64 ah, .slice an ak ap, .int .u64 b0] 0 ∧
 Q01 b8 (a0.add 0) ∧
 thenW (b8.setCell (a0.add 0) (.int .i64 ac)) fun bd =>
 Q01 bd (a0.add 1) ∧
 thenW (bd.setCell (a0.add 1) (.int .i64 ag)) fun be =>
 Q01 be (a0.add 2) ∧
 thenW (be.setCell (a0.add 2) (.int .u64 au)) fun bc =>
 Q01 bc (a0.add 3) ∧
 thenW (bc.setCell (a0.add 3) (.int .i64 b3)) fun bb =>
 Q01 bb (a0.add 4) ∧
 thenW (bb.setCell (a0.add 4) (.int .i64 b2)) fun ba =>
 Q01 ba (a0.add 5) ∧
 thenW (ba.setCell (a0.add 5) (.int .i64 ah)) fun bf =>
 Q01 bf (a0.add 6) ∧
 thenW (bf.setCell (a0.add 6) (.slice an ak ap)) fun bg =>
 Q01 bg (a0.add 7) ∧
 thenW (bg.setCell (a0.add 7) (.int .u64 b0)) fun b9 =>
 ∃ (a1 a4 ab am al a5 : Int) (a3 : Option Addr) (a2 a6 : Nat) (af : Int), cellsAt b9 a0 [.int .i64 a1, .int .i64 a4, .int .u64 ab, .int .i64 am, .int .i64 al, .int .i64 a5, .slice a3 a2 a6, .int .u64 af] 0 ∧
 R (.tuple #[.agg #[.int .i64 a1, .int .i64 a4, .int .u64 ab, .int .i64 am, .int .i64 al, .int .i64 a5, .slice a3 a2 a6, .int .u64 af], .int .i64 0]) b9)

def Q0i.M (bb : Option Addr) (bc b9 : Nat) (R : RW) (w : World) : Prop :=
 thenW (w.alloc (.cells #[.int .i64 0, .int .i64 0, .int .u64 0, .int .i64 0, .int .i64 0, .int .i64 0, .slice none 0 0, .int .u64 0] 27)) fun b5 =>
 thenW (b5.alloc (.cells #[.slice bb bc b9, .int .i64 0] 83)) fun ba =>
 Calls Try.prog 66 #[.pointer (some (blk b5.heap.size))] ba fun b7 a0 => ∃ (ad ag ai ao ar ah : Int) (ac : Option Addr) (af ae : Nat) (aj : Int), b7 = .returned (.agg #[.int .i64 ad, .int .i64 ag, .int .u64 ai, .int .i64 ao, .int .i64 ar, .int .i64 ah, .slice ac af ae, .int .u64 aj]) ∧
 thenW (a0.alloc (.cells #[.int .i64 0, .int .i64 0, .int .u64 0, .int .i64 0, .int .i64 0, .int .i64 0, .slice none 0 0, .int .u64 0] 27)) fun av =>
 Q01 av ((blk a0.heap.size).add 0) ∧
 thenW (av.setCell ((blk a0.heap.size).add 0) (.int .i64 ad)) fun am =>
 Q01 am ((blk a0.heap.size).add 1) ∧
 thenW (am.setCell ((blk a0.heap.size).add 1) (.int .i64 ag)) fun b2 =>
 Q01 b2 ((blk a0.heap.size).add 2) ∧
 thenW (b2.setCell ((blk a0.heap.size).add 2) (.int .u64 ai)) fun al =>
 Q01 al ((blk a0.heap.size).add 3) ∧
 thenW (al.setCell ((blk a0.heap.size).add 3) (.int .i64 ao)) fun b4 =>
 Q01 b4 ((blk a0.heap.size).add 4) ∧
 thenW (b4.setCell ((blk a0.heap.size).add 4) (.int .i64 ar)) fun aq =>
 Q01 aq ((blk a0.heap.size).add 5) ∧
 thenW (aq.setCell ((blk a0.heap.size).add 5) (.int .i64 ah)) fun au =>
 Q01 au ((blk a0.heap.size).add 6) ∧
 thenW (au.setCell ((blk a0.heap.size).add 6) (.slice ac af ae)) fun az =>
 Q01 az ((blk a0.heap.size).add 7) ∧
 thenW (az.setCell ((blk a0.heap.size).add 7) (.int .u64 aj)) fun b8 =>
 Calls Try.prog 46 #[.pointer (some (blk b5.heap.size))] b8 fun b6 ak => ∃ (ab : Int), b6 = .returned (.int .i64 ab) ∧
 bif ab != 0 then (
 Q01 ak ((blk w.heap.size).add 0) ∧
 thenW (ak.setCell ((blk w.heap.size).add 0) (.int .i64 0)) fun aw =>
 Q01 aw ((blk w.heap.size).add 1) ∧
 thenW (aw.setCell ((blk w.heap.size).add 1) (.int .i64 0)) fun b1 =>
 Q01 b1 ((blk w.heap.size).add 2) ∧
 thenW (b1.setCell ((blk w.heap.size).add 2) (.int .u64 0)) fun ap =>
 Q01 ap ((blk w.heap.size).add 3) ∧
 thenW (ap.setCell ((blk w.heap.size).add 3) (.int .i64 0)) fun ay =>
 Q01 ay ((blk w.heap.size).add 4) ∧
 thenW (ay.setCell ((blk w.heap.size).add 4) (.int .i64 0)) fun an =>
 Q01 an ((blk w.heap.size).add 5) ∧
 thenW (an.setCell ((blk w.heap.size).add 5) (.int .i64 0)) fun ax =>
 Q01 ax ((blk w.heap.size).add 6) ∧
 thenW (ax.setCell ((blk w.heap.size).add 6) (.slice none 0 0)) fun b0 =>
 Q01 b0 ((blk w.heap.size).add 7) ∧
 thenW (b0.setCell ((blk w.heap.size).add 7) (.int .u64 0)) fun b3 =>
 ∃ (a1 a3 a7 aa a8 a2 : Int) (a6 : Option Addr) (a4 a5 : Nat) (a9 : Int), cellsAt b3 (blk w.heap.size) [.int .i64 a1, .int .i64 a3, .int .u64 a7, .int .i64 aa, .int .i64 a8, .int .i64 a2, .slice a6 a4 a5, .int .u64 a9] 0 ∧
 R (.tuple #[.agg #[.int .i64 a1, .int .i64 a3, .int .u64 a7, .int .i64 aa, .int .i64 a8, .int .i64 a2, .slice a6 a4 a5, .int .u64 a9], .int .i64 ab]) b3) else (
 Q0i.J1 (blk a0.heap.size) (blk w.heap.size) R ak)

theorem Q0i.ok (a0 : Option Addr) (a1 a2 : Nat) {R : RW} {w : World} (h : Q0i.M a0 a1 a2 R w) : Calls Try.prog 47 #[.slice a0 a1 a2] w fun e w' => ∃ v, e = .returned v ∧ R v w' :=
  Q08 follows (H := []) (args := [.slice a0 a1 a2]) (cast (by kernel_rfl) h)

def Q0i.N (am : Option Addr) (an al : Nat) (R : RW) (w : World) : Prop :=
 ∀ (ag : World) (q4 p5 : Nat), Ext no w ag → Blk ag q4 83 [.slice am an al, .int .i64 0] → w.heap.size ≤ q4 → q4 < ag.heap.size → Privq w q4 [p5] →
 Calls Try.prog 66 #[.pointer (some (blk q4))] ag fun ai ad => ∃ (a0 a5 a8 ab a7 a2 : Int) (a4 : Option Addr) (a3 a1 : Nat) (a9 : Int), ai = .returned (.agg #[.int .i64 a0, .int .i64 a5, .int .u64 a8, .int .i64 ab, .int .i64 a7, .int .i64 a2, .slice a4 a3 a1, .int .u64 a9]) ∧
 Keep [p5] ag ad ∧
 ∀ (ac : World) (ak : Nat), Ext no ad ac → Priv ad ac [ak] →
 Calls Try.prog 46 #[.pointer (some (blk q4))] ac fun aj aa => ∃ (a6 : Int), aj = .returned (.int .i64 a6) ∧
 Keep [p5, ak] ac aa ∧
 (a6 ≠ 0 →
 ∀ (ah : World), Ext (fun b => b = p5) aa ah →
 R (.tuple #[.agg #[.int .i64 0, .int .i64 0, .int .u64 0, .int .i64 0, .int .i64 0, .int .i64 0, .slice none 0 0, .int .u64 0], .int .i64 a6]) ah) ∧
 (a6 = 0 →
 ((Q03.F a0 a5 a8 ab a7 a2 a4 a3 a1 a9) = false →
 ∀ (ae : World), Ext (fun b => b = p5) aa ae →
 R (.tuple #[.agg #[.int .i64 0, .int .i64 0, .int .u64 0, .int .i64 0, .int .i64 0, .int .i64 0, .slice none 0 0, .int .u64 0], .int .i64 4]) ae) ∧
 ((Q03.F a0 a5 a8 ab a7 a2 a4 a3 a1 a9) = true →
 ∀ (af : World), Ext (fun b => b = p5) aa af →
 R (.tuple #[.agg #[.int .i64 a0, .int .i64 a5, .int .u64 a8, .int .i64 ab, .int .i64 a7, .int .i64 a2, .slice a4 a3 a1, .int .u64 a9], .int .i64 0]) af))

theorem Q0i.up (d2 : Option Addr) (dj d7 : Nat) {R : RW} {w : World} (h : Q0i.N d2 dj d7 R w) : Q0i.M d2 dj d7 R w := by
  unfold Q0i.M
  unfold Q0i.N at h
  refine Q02 fun dl e2 => ?_
  have a0 := Blk.of_new e2
  have dq := ((Ext.refl no w)).size
  have cv := (Ext.refl no w).x_alloc e2
  refine Q02 fun dp e3 => ?_
  have dm := a0.lt
  have a0 := a0.x_alloc e3
  have h := h dp dl.heap.size (w.heap.size) (cv.x_alloc e3) (Blk.of_new e3) (cv).size (Q0M e3) (Privq.cons dq dm Privq.nil)
  refine h.mono fun dk a5 h => ?_
  obtain ⟨a1, a2, a4, ab, aa, a3, a6, a7, a8, ac, he, hk, h⟩ := h
  refine ⟨a1, a2, a4, ab, aa, a3, a6, a7, a8, ac, he, ?_⟩
  have a0 := hk.blk a0 (by simp)
  refine Q02 fun dr an => ?_
  have a9 := Blk.of_new an
  have af := ((Ext.refl no a5)).size
  have ad := Nat.ne_of_lt a0.lt
  have a0 := a0.x_alloc an
  have cb := (Ext.refl no a5).x_alloc an
  refine ⟨a9.cani 0 rfl rfl, Q02 fun c9 ce => ?_⟩
  have bg := cb.x_set (q := a5.heap.size) (i := 0) rfl (.inr af) ce
  have a0 := a0.oth (q := a5.heap.size) (i := 0) rfl ad ce
  have a9 : Blk c9 a5.heap.size 27 [.int .i64 a1, .int .i64 0, .int .u64 0, .int .i64 0, .int .i64 0, .int .i64 0, .slice none 0 0, .int .u64 0] := a9.seti 0 rfl ce
  refine ⟨a9.cani 1 rfl rfl, Q02 fun bk c3 => ?_⟩
  have b6 := bg.x_set (q := a5.heap.size) (i := 1) rfl (.inr af) c3
  have a0 := a0.oth (q := a5.heap.size) (i := 1) rfl ad c3
  have a9 : Blk bk a5.heap.size 27 [.int .i64 a1, .int .i64 a2, .int .u64 0, .int .i64 0, .int .i64 0, .int .i64 0, .slice none 0 0, .int .u64 0] := a9.seti 1 rfl c3
  refine ⟨a9.cani 2 rfl rfl, Q02 fun cf c6 => ?_⟩
  have cj := b6.x_set (q := a5.heap.size) (i := 2) rfl (.inr af) c6
  have a0 := a0.oth (q := a5.heap.size) (i := 2) rfl ad c6
  have a9 : Blk cf a5.heap.size 27 [.int .i64 a1, .int .i64 a2, .int .u64 a4, .int .i64 0, .int .i64 0, .int .i64 0, .slice none 0 0, .int .u64 0] := a9.seti 2 rfl c6
  refine ⟨a9.cani 3 rfl rfl, Q02 fun ch bx => ?_⟩
  have ap := cj.x_set (q := a5.heap.size) (i := 3) rfl (.inr af) bx
  have a0 := a0.oth (q := a5.heap.size) (i := 3) rfl ad bx
  have a9 : Blk ch a5.heap.size 27 [.int .i64 a1, .int .i64 a2, .int .u64 a4, .int .i64 ab, .int .i64 0, .int .i64 0, .slice none 0 0, .int .u64 0] := a9.seti 3 rfl bx
  refine ⟨a9.cani 4 rfl rfl, Q02 fun bf b7 => ?_⟩
  have cr := ap.x_set (q := a5.heap.size) (i := 4) rfl (.inr af) b7
  have a0 := a0.oth (q := a5.heap.size) (i := 4) rfl ad b7
  have a9 : Blk bf a5.heap.size 27 [.int .i64 a1, .int .i64 a2, .int .u64 a4, .int .i64 ab, .int .i64 aa, .int .i64 0, .slice none 0 0, .int .u64 0] := a9.seti 4 rfl b7
  refine ⟨a9.cani 5 rfl rfl, Q02 fun bn ca => ?_⟩
  have bv := cr.x_set (q := a5.heap.size) (i := 5) rfl (.inr af) ca
  have a0 := a0.oth (q := a5.heap.size) (i := 5) rfl ad ca
  have a9 : Blk bn a5.heap.size 27 [.int .i64 a1, .int .i64 a2, .int .u64 a4, .int .i64 ab, .int .i64 aa, .int .i64 a3, .slice none 0 0, .int .u64 0] := a9.seti 5 rfl ca
  refine ⟨a9.cani 6 rfl rfl, Q02 fun c0 bo => ?_⟩
  have aq := bv.x_set (q := a5.heap.size) (i := 6) rfl (.inr af) bo
  have a0 := a0.oth (q := a5.heap.size) (i := 6) rfl ad bo
  have a9 : Blk c0 a5.heap.size 27 [.int .i64 a1, .int .i64 a2, .int .u64 a4, .int .i64 ab, .int .i64 aa, .int .i64 a3, .slice a6 a7 a8, .int .u64 0] := a9.seti 6 rfl bo
  refine ⟨a9.cani 7 rfl rfl, Q02 fun ah c1 => ?_⟩
  have cd := aq.x_set (q := a5.heap.size) (i := 7) rfl (.inr af) c1
  have a0 := a0.oth (q := a5.heap.size) (i := 7) rfl ad c1
  have a9 : Blk ah a5.heap.size 27 [.int .i64 a1, .int .i64 a2, .int .u64 a4, .int .i64 ab, .int .i64 aa, .int .i64 a3, .slice a6 a7 a8, .int .u64 ac] := a9.seti 7 rfl c1
  have h := h ah (a5.heap.size) cd (Priv.cons af a9.lt Priv.nil)
  refine h.mono fun dn ae h => ?_
  obtain ⟨ag, he, hk, h⟩ := h
  refine ⟨ag, he, ?_⟩
  have a0 := hk.blk a0 (by simp)
  have a9 := hk.blk a9 (by simp)
  refine bif_of (fun ck => ?_) (fun ck => ?_)
  ·have h := h.1 (bne_t ck)
   have cl : Ext (fun b => b = w.heap.size) ae ae := ((Ext.refl no ae)).none
   refine ⟨a0.cani 0 rfl rfl, Q02 fun bq da => ?_⟩
   have c5 := cl.x_set (q := w.heap.size) (i := 0) rfl (.inl rfl) da
   have a0 : Blk bq w.heap.size 27 [.int .i64 0, .int .i64 0, .int .u64 0, .int .i64 0, .int .i64 0, .int .i64 0, .slice none 0 0, .int .u64 0] := a0.seti 0 rfl da
   refine ⟨a0.cani 1 rfl rfl, Q02 fun bz cx => ?_⟩
   have c4 := c5.x_set (q := w.heap.size) (i := 1) rfl (.inl rfl) cx
   have a0 : Blk bz w.heap.size 27 [.int .i64 0, .int .i64 0, .int .u64 0, .int .i64 0, .int .i64 0, .int .i64 0, .slice none 0 0, .int .u64 0] := a0.seti 1 rfl cx
   refine ⟨a0.cani 2 rfl rfl, Q02 fun b0 df => ?_⟩
   have ay := c4.x_set (q := w.heap.size) (i := 2) rfl (.inl rfl) df
   have a0 : Blk b0 w.heap.size 27 [.int .i64 0, .int .i64 0, .int .u64 0, .int .i64 0, .int .i64 0, .int .i64 0, .slice none 0 0, .int .u64 0] := a0.seti 2 rfl df
   refine ⟨a0.cani 3 rfl rfl, Q02 fun c7 d6 => ?_⟩
   have b5 := ay.x_set (q := w.heap.size) (i := 3) rfl (.inl rfl) d6
   have a0 : Blk c7 w.heap.size 27 [.int .i64 0, .int .i64 0, .int .u64 0, .int .i64 0, .int .i64 0, .int .i64 0, .slice none 0 0, .int .u64 0] := a0.seti 3 rfl d6
   refine ⟨a0.cani 4 rfl rfl, Q02 fun b2 de => ?_⟩
   have b3 := b5.x_set (q := w.heap.size) (i := 4) rfl (.inl rfl) de
   have a0 : Blk b2 w.heap.size 27 [.int .i64 0, .int .i64 0, .int .u64 0, .int .i64 0, .int .i64 0, .int .i64 0, .slice none 0 0, .int .u64 0] := a0.seti 4 rfl de
   refine ⟨a0.cani 5 rfl rfl, Q02 fun bw cs => ?_⟩
   have b1 := b3.x_set (q := w.heap.size) (i := 5) rfl (.inl rfl) cs
   have a0 : Blk bw w.heap.size 27 [.int .i64 0, .int .i64 0, .int .u64 0, .int .i64 0, .int .i64 0, .int .i64 0, .slice none 0 0, .int .u64 0] := a0.seti 5 rfl cs
   refine ⟨a0.cani 6 rfl rfl, Q02 fun bi dh => ?_⟩
   have bl := b1.x_set (q := w.heap.size) (i := 6) rfl (.inl rfl) dh
   have a0 : Blk bi w.heap.size 27 [.int .i64 0, .int .i64 0, .int .u64 0, .int .i64 0, .int .i64 0, .int .i64 0, .slice none 0 0, .int .u64 0] := a0.seti 6 rfl dh
   refine ⟨a0.cani 7 rfl rfl, Q02 fun al db => ?_⟩
   have bs := bl.x_set (q := w.heap.size) (i := 7) rfl (.inl rfl) db
   have a0 : Blk al w.heap.size 27 [.int .i64 0, .int .i64 0, .int .u64 0, .int .i64 0, .int .i64 0, .int .i64 0, .slice none 0 0, .int .u64 0] := a0.seti 7 rfl db
   refine ⟨0, 0, 0, 0, 0, 0, none, 0, 0, 0, ⟨a0.celli 0 rfl rfl, a0.celli 1 rfl rfl, a0.celli 2 rfl rfl, a0.celli 3 rfl rfl, a0.celli 4 rfl rfl, a0.celli 5 rfl rfl, a0.celli 6 rfl rfl, a0.celli 7 rfl rfl, trivial⟩, ?_⟩
   have h := h al bs
   exact h
  have h := h.2 (bne_f ck)
  unfold Q0i.J1
  refine ⟨a1, a2, a4, ab, aa, a3, a6, a7, a8, ac, ⟨a9.celli 0 rfl rfl, a9.celli 1 rfl rfl, a9.celli 2 rfl rfl, a9.celli 3 rfl rfl, a9.celli 4 rfl rfl, a9.celli 5 rfl rfl, a9.celli 6 rfl rfl, a9.celli 7 rfl rfl, trivial⟩, ?_⟩
  refine (Q03.pure a1 a2 a4 ab aa a3 a6 a7 a8 ac).mono fun ee ww38 ⟨he, hxx⟩ => ⟨(Q03.F a1 a2 a4 ab aa a3 a6 a7 a8 ac), he, ?_⟩
  have ai := (Ext.refl no ae).trans hxx
  have a0 := a0.ext hxx id
  have a9 := a9.ext hxx id
  refine bif_of (fun bb => ?_) (fun bb => ?_)
  ·have h := h.1 (not_t bb)
   have bj : Ext (fun b => b = w.heap.size) ae ww38 := (ai).none
   refine ⟨a0.cani 0 rfl rfl, Q02 fun c8 cw => ?_⟩
   have cm := bj.x_set (q := w.heap.size) (i := 0) rfl (.inl rfl) cw
   have a0 : Blk c8 w.heap.size 27 [.int .i64 0, .int .i64 0, .int .u64 0, .int .i64 0, .int .i64 0, .int .i64 0, .slice none 0 0, .int .u64 0] := a0.seti 0 rfl cw
   refine ⟨a0.cani 1 rfl rfl, Q02 fun b9 dd => ?_⟩
   have cg := cm.x_set (q := w.heap.size) (i := 1) rfl (.inl rfl) dd
   have a0 : Blk b9 w.heap.size 27 [.int .i64 0, .int .i64 0, .int .u64 0, .int .i64 0, .int .i64 0, .int .i64 0, .slice none 0 0, .int .u64 0] := a0.seti 1 rfl dd
   refine ⟨a0.cani 2 rfl rfl, Q02 fun au d0 => ?_⟩
   have bc := cg.x_set (q := w.heap.size) (i := 2) rfl (.inl rfl) d0
   have a0 : Blk au w.heap.size 27 [.int .i64 0, .int .i64 0, .int .u64 0, .int .i64 0, .int .i64 0, .int .i64 0, .slice none 0 0, .int .u64 0] := a0.seti 2 rfl d0
   refine ⟨a0.cani 3 rfl rfl, Q02 fun ax di => ?_⟩
   have av := bc.x_set (q := w.heap.size) (i := 3) rfl (.inl rfl) di
   have a0 : Blk ax w.heap.size 27 [.int .i64 0, .int .i64 0, .int .u64 0, .int .i64 0, .int .i64 0, .int .i64 0, .slice none 0 0, .int .u64 0] := a0.seti 3 rfl di
   refine ⟨a0.cani 4 rfl rfl, Q02 fun br d1 => ?_⟩
   have c2 := av.x_set (q := w.heap.size) (i := 4) rfl (.inl rfl) d1
   have a0 : Blk br w.heap.size 27 [.int .i64 0, .int .i64 0, .int .u64 0, .int .i64 0, .int .i64 0, .int .i64 0, .slice none 0 0, .int .u64 0] := a0.seti 4 rfl d1
   refine ⟨a0.cani 5 rfl rfl, Q02 fun az d5 => ?_⟩
   have b4 := c2.x_set (q := w.heap.size) (i := 5) rfl (.inl rfl) d5
   have a0 : Blk az w.heap.size 27 [.int .i64 0, .int .i64 0, .int .u64 0, .int .i64 0, .int .i64 0, .int .i64 0, .slice none 0 0, .int .u64 0] := a0.seti 5 rfl d5
   refine ⟨a0.cani 6 rfl rfl, Q02 fun cq dg => ?_⟩
   have bm := b4.x_set (q := w.heap.size) (i := 6) rfl (.inl rfl) dg
   have a0 : Blk cq w.heap.size 27 [.int .i64 0, .int .i64 0, .int .u64 0, .int .i64 0, .int .i64 0, .int .i64 0, .slice none 0 0, .int .u64 0] := a0.seti 6 rfl dg
   refine ⟨a0.cani 7 rfl rfl, Q02 fun aj d9 => ?_⟩
   have bh := bm.x_set (q := w.heap.size) (i := 7) rfl (.inl rfl) d9
   have a0 : Blk aj w.heap.size 27 [.int .i64 0, .int .i64 0, .int .u64 0, .int .i64 0, .int .i64 0, .int .i64 0, .slice none 0 0, .int .u64 0] := a0.seti 7 rfl d9
   refine ⟨0, 0, 0, 0, 0, 0, none, 0, 0, 0, ⟨a0.celli 0 rfl rfl, a0.celli 1 rfl rfl, a0.celli 2 rfl rfl, a0.celli 3 rfl rfl, a0.celli 4 rfl rfl, a0.celli 5 rfl rfl, a0.celli 6 rfl rfl, a0.celli 7 rfl rfl, trivial⟩, ?_⟩
   have h := h aj bh
   exact h
  have h := h.2 (not_f bb)
  refine ⟨a1, a2, a4, ab, aa, a3, a6, a7, a8, ac, ⟨a9.celli 0 rfl rfl, a9.celli 1 rfl rfl, a9.celli 2 rfl rfl, a9.celli 3 rfl rfl, a9.celli 4 rfl rfl, a9.celli 5 rfl rfl, a9.celli 6 rfl rfl, a9.celli 7 rfl rfl, trivial⟩, ?_⟩
  have ao : Ext (fun b => b = w.heap.size) ae ww38 := (ai).none
  refine ⟨a0.cani 0 rfl rfl, Q02 fun co cz => ?_⟩
  have ci := ao.x_set (q := w.heap.size) (i := 0) rfl (.inl rfl) cz
  have a0 : Blk co w.heap.size 27 [.int .i64 a1, .int .i64 0, .int .u64 0, .int .i64 0, .int .i64 0, .int .i64 0, .slice none 0 0, .int .u64 0] := a0.seti 0 rfl cz
  refine ⟨a0.cani 1 rfl rfl, Q02 fun cp dc => ?_⟩
  have cn := ci.x_set (q := w.heap.size) (i := 1) rfl (.inl rfl) dc
  have a0 : Blk cp w.heap.size 27 [.int .i64 a1, .int .i64 a2, .int .u64 0, .int .i64 0, .int .i64 0, .int .i64 0, .slice none 0 0, .int .u64 0] := a0.seti 1 rfl dc
  refine ⟨a0.cani 2 rfl rfl, Q02 fun bt ct => ?_⟩
  have b8 := cn.x_set (q := w.heap.size) (i := 2) rfl (.inl rfl) ct
  have a0 : Blk bt w.heap.size 27 [.int .i64 a1, .int .i64 a2, .int .u64 a4, .int .i64 0, .int .i64 0, .int .i64 0, .slice none 0 0, .int .u64 0] := a0.seti 2 rfl ct
  refine ⟨a0.cani 3 rfl rfl, Q02 fun bp cu => ?_⟩
  have bd := b8.x_set (q := w.heap.size) (i := 3) rfl (.inl rfl) cu
  have a0 : Blk bp w.heap.size 27 [.int .i64 a1, .int .i64 a2, .int .u64 a4, .int .i64 ab, .int .i64 0, .int .i64 0, .slice none 0 0, .int .u64 0] := a0.seti 3 rfl cu
  refine ⟨a0.cani 4 rfl rfl, Q02 fun am d8 => ?_⟩
  have ar := bd.x_set (q := w.heap.size) (i := 4) rfl (.inl rfl) d8
  have a0 : Blk am w.heap.size 27 [.int .i64 a1, .int .i64 a2, .int .u64 a4, .int .i64 ab, .int .i64 aa, .int .i64 0, .slice none 0 0, .int .u64 0] := a0.seti 4 rfl d8
  refine ⟨a0.cani 5 rfl rfl, Q02 fun bu d4 => ?_⟩
  have be := ar.x_set (q := w.heap.size) (i := 5) rfl (.inl rfl) d4
  have a0 : Blk bu w.heap.size 27 [.int .i64 a1, .int .i64 a2, .int .u64 a4, .int .i64 ab, .int .i64 aa, .int .i64 a3, .slice none 0 0, .int .u64 0] := a0.seti 5 rfl d4
  refine ⟨a0.cani 6 rfl rfl, Q02 fun aw cy => ?_⟩
  have ba := be.x_set (q := w.heap.size) (i := 6) rfl (.inl rfl) cy
  have a0 : Blk aw w.heap.size 27 [.int .i64 a1, .int .i64 a2, .int .u64 a4, .int .i64 ab, .int .i64 aa, .int .i64 a3, .slice a6 a7 a8, .int .u64 0] := a0.seti 6 rfl cy
  refine ⟨a0.cani 7 rfl rfl, Q02 fun ak d3 => ?_⟩
  have cc := ba.x_set (q := w.heap.size) (i := 7) rfl (.inl rfl) d3
  have a0 : Blk ak w.heap.size 27 [.int .i64 a1, .int .i64 a2, .int .u64 a4, .int .i64 ab, .int .i64 aa, .int .i64 a3, .slice a6 a7 a8, .int .u64 ac] := a0.seti 7 rfl d3
  refine ⟨a1, a2, a4, ab, aa, a3, a6, a7, a8, ac, ⟨a0.celli 0 rfl rfl, a0.celli 1 rfl rfl, a0.celli 2 rfl rfl, a0.celli 3 rfl rfl, a0.celli 4 rfl rfl, a0.celli 5 rfl rfl, a0.celli 6 rfl rfl, a0.celli 7 rfl rfl, trivial⟩, ?_⟩
  have h := h ak cc
  exact h

theorem Q0i.go (a0 : Option Addr) (a1 a2 : Nat) {R : RW} {w : World} (h : Q0i.N a0 a1 a2 R w) : Calls Try.prog 47 #[.slice a0 a1 a2] w fun e w' => ∃ v, e = .returned v ∧ R v w' := Q0i.ok a0 a1 a2 (Q0i.up a0 a1 a2 h)
def Q0r.M (ag ar b4 b7 b8 ao : Int) (aq : Option Addr) (av ap : Nat) (b6 ak ah au b3 b2 al : Int) (aj : Option Addr) (ae am : Nat) (b5 : Int) (R : RW) (w : World) : Prop :=
 thenW (w.alloc (.cells #[.int .i64 ag, .int .i64 ar, .int .u64 b4, .int .i64 b7, .int .i64 b8, .int .i64 ao, .slice aq av ap, .int .u64 b6] 27)) fun a1 =>
 thenW (a1.alloc (.cells #[.int .i64 ak, .int .i64 ah, .int .u64 au, .int .i64 b3, .int .i64 b2, .int .i64 al, .slice aj ae am, .int .u64 b5] 27)) fun a0 =>
 ∃ (a3 : Int), a0.cell? ((blk w.heap.size).add 0) = some (.int .i64 a3) ∧
 ∃ (a2 : Int), a0.cell? ((blk a1.heap.size).add 0) = some (.int .i64 a2) ∧
 bif a3 == a2 then (
 ∃ (a5 : Int), a0.cell? ((blk w.heap.size).add 1) = some (.int .i64 a5) ∧
 ∃ (ad : Int), a0.cell? ((blk a1.heap.size).add 1) = some (.int .i64 ad) ∧
 bif a5 == ad then (
 ∃ (ai : Int), a0.cell? ((blk w.heap.size).add 2) = some (.int .u64 ai) ∧
 ∃ (af : Int), a0.cell? ((blk a1.heap.size).add 2) = some (.int .u64 af) ∧
 bif ai == af then (
 ∃ (b0 b1 : Int), cellsAt a0 ((blk w.heap.size).add 3) [.int .i64 b0, .int .i64 b1] 0 ∧
 ∃ (aw ay : Int), cellsAt a0 ((blk a1.heap.size).add 3) [.int .i64 aw, .int .i64 ay] 0 ∧
 ∃ (bb : Bool), (binOp .eql 24 (.agg #[.int .i64 b0, .int .i64 b1]) (.agg #[.int .i64 aw, .int .i64 ay])).run Try.prog a0 = .ok (.bool bb) a0 ∧
 bif bb then (
 ∃ (ab : Int), a0.cell? ((blk w.heap.size).add 5) = some (.int .i64 ab) ∧
 ∃ (a8 : Int), a0.cell? ((blk a1.heap.size).add 5) = some (.int .i64 a8) ∧
 bif ab == a8 then (
 ∃ (ax : Int), a0.cell? ((blk w.heap.size).add 7) = some (.int .u64 ax) ∧
 ∃ (az : Int), a0.cell? ((blk a1.heap.size).add 7) = some (.int .u64 az) ∧
 bif ax == az then (
 ∃ (a4 : Option Addr) (a6 a7 : Nat), a0.cell? ((blk w.heap.size).add 6) = some (.slice a4 a6 a7) ∧
 ∃ (aa : Option Addr) (a9 ac : Nat), a0.cell? ((blk a1.heap.size).add 6) = some (.slice aa a9 ac) ∧
 Calls Try.prog 11 #[.slice a4 a6 a7, .slice aa a9 ac] a0 fun b9 ba => ∃ (an : Bool), b9 = .returned (.bool an) ∧
 R (.bool an) ba) else (
 R (.bool false) a0)) else (
 R (.bool false) a0)) else (
 R (.bool false) a0)) else (
 R (.bool false) a0)) else (
 R (.bool false) a0)) else (
 R (.bool false) a0)

theorem Q0r.ok (a1 aa af ai aj a7 : Int) (a9 : Option Addr) (ac a8 : Nat) (ah a4 a2 ab ae ad a5 : Int) (a3 : Option Addr) (a0 a6 : Nat) (ag : Int) {R : RW} {w : World} (h : Q0r.M a1 aa af ai aj a7 a9 ac a8 ah a4 a2 ab ae ad a5 a3 a0 a6 ag R w) : Calls Try.prog 35 #[.agg #[.int .i64 a1, .int .i64 aa, .int .u64 af, .int .i64 ai, .int .i64 aj, .int .i64 a7, .slice a9 ac a8, .int .u64 ah], .agg #[.int .i64 a4, .int .i64 a2, .int .u64 ab, .int .i64 ae, .int .i64 ad, .int .i64 a5, .slice a3 a0 a6, .int .u64 ag]] w fun e w' => ∃ v, e = .returned v ∧ R v w' :=
  Q08 follows (H := []) (args := [.agg #[.int .i64 a1, .int .i64 aa, .int .u64 af, .int .i64 ai, .int .i64 aj, .int .i64 a7, .slice a9 ac a8, .int .u64 ah], .agg #[.int .i64 a4, .int .i64 a2, .int .u64 ab, .int .i64 ae, .int .i64 ad, .int .i64 a5, .slice a3 a0 a6, .int .u64 ag]]) (cast (by kernel_rfl) h)

def Q0r.N (a1 a6 ab ak al a5 : Int) (ah : Option Addr) (ai ag : Nat) (aj a3 a2 a7 aa a9 a4 : Int) (ad : Option Addr) (a8 ae : Nat) (af : Int) (R : RW) (w : World) : Prop :=
 (a1 = a3 →
 (a6 = a2 →
 (ab = a7 →
 (ak = aa ∧ al = a9 →
 (a5 = a4 →
 (aj = af →
 ∀ (a0 : World), Ext no w a0 →
 Calls Try.prog 11 #[.slice ah ai ag, .slice ad a8 ae] a0 fun am an => ∃ (ac : Bool), am = .returned (.bool ac) ∧
 R (.bool ac) an) ∧
 (aj ≠ af →
 ∀ (a0 : World), Ext no w a0 →
 R (.bool false) a0)) ∧
 (a5 ≠ a4 →
 ∀ (a0 : World), Ext no w a0 →
 R (.bool false) a0)) ∧
 (¬ (ak = aa ∧ al = a9) →
 ∀ (a0 : World), Ext no w a0 →
 R (.bool false) a0)) ∧
 (ab ≠ a7 →
 ∀ (a0 : World), Ext no w a0 →
 R (.bool false) a0)) ∧
 (a6 ≠ a2 →
 ∀ (a0 : World), Ext no w a0 →
 R (.bool false) a0)) ∧
 (a1 ≠ a3 →
 ∀ (a0 : World), Ext no w a0 →
 R (.bool false) a0)

theorem Q0r.up (a1 ac ag aj ak a9 : Int) (ab : Option Addr) (ae aa : Nat) (al a4 a2 ad a8 a7 a5 : Int) (a3 : Option Addr) (a0 a6 : Nat) (ah : Int) {R : RW} {w : World} (h : Q0r.N a1 ac ag aj ak a9 ab ae aa al a4 a2 ad a8 a7 a5 a3 a0 a6 ah R w) : Q0r.M a1 ac ag aj ak a9 ab ae aa al a4 a2 ad a8 a7 a5 a3 a0 a6 ah R w := by
  unfold Q0r.M
  unfold Q0r.N at h
  refine Q02 fun b1 az => ?_
  have am := Blk.of_new az
  have b5 := ((Ext.refl no w)).size
  have ap := (Ext.refl no w).x_alloc az
  refine Q02 fun ai ar => ?_
  have an := Blk.of_new ar
  have b4 := (ap).size
  have b0 := Nat.ne_of_lt am.lt
  have am := am.x_alloc ar
  have af := ap.x_alloc ar
  refine ⟨a1, am.celli 0 rfl rfl, ?_⟩
  refine ⟨a4, an.celli 0 rfl rfl, ?_⟩
  refine bif_fo (fun au => ?_) (fun au => ?_)
  ·have h := h.2 (beq_f au)
   have h := h ai af
   exact h
  have h := h.1 (beq_t au)
  refine ⟨ac, am.celli 1 rfl rfl, ?_⟩
  refine ⟨a2, an.celli 1 rfl rfl, ?_⟩
  refine bif_fo (fun av => ?_) (fun av => ?_)
  ·have h := h.2 (beq_f av)
   have h := h ai af
   exact h
  have h := h.1 (beq_t av)
  refine ⟨ag, am.celli 2 rfl rfl, ?_⟩
  refine ⟨ad, an.celli 2 rfl rfl, ?_⟩
  refine bif_fo (fun aw => ?_) (fun aw => ?_)
  ·have h := h.2 (beq_f aw)
   have h := h ai af
   exact h
  have h := h.1 (beq_t aw)
  refine ⟨aj, ak, ⟨am.celli 3 rfl rfl, am.celli 4 rfl rfl, trivial⟩, ?_⟩
  refine ⟨a8, a7, ⟨an.celli 3 rfl rfl, an.celli 4 rfl rfl, trivial⟩, ?_⟩
  refine ⟨_, Q4b aj ak a8 a7 _, ?_⟩
  refine bif_fo (fun ay => ?_) (fun ay => ?_)
  ·have h := h.2 (of_decide_eq_false ay)
   have h := h ai af
   exact h
  have h := h.1 (of_decide_eq_true ay)
  refine ⟨a9, am.celli 5 rfl rfl, ?_⟩
  refine ⟨a5, an.celli 5 rfl rfl, ?_⟩
  refine bif_fo (fun ax => ?_) (fun ax => ?_)
  ·have h := h.2 (beq_f ax)
   have h := h ai af
   exact h
  have h := h.1 (beq_t ax)
  refine ⟨al, am.celli 7 rfl rfl, ?_⟩
  refine ⟨ah, an.celli 7 rfl rfl, ?_⟩
  refine bif_fo (fun aq => ?_) (fun aq => ?_)
  ·have h := h.2 (beq_f aq)
   have h := h ai af
   exact h
  have h := h.1 (beq_t aq)
  refine ⟨ab, ae, aa, am.celli 6 rfl rfl, ?_⟩
  refine ⟨a3, a0, a6, an.celli 6 rfl rfl, ?_⟩
  have h := h ai af
  refine h.mono fun b2 b3 h => ?_
  obtain ⟨ao, he, h⟩ := h
  refine ⟨ao, he, ?_⟩
  exact h

theorem Q0r.go (a1 aa af ai aj a7 : Int) (a9 : Option Addr) (ac a8 : Nat) (ah a4 a2 ab ae ad a5 : Int) (a3 : Option Addr) (a0 a6 : Nat) (ag : Int) {R : RW} {w : World} (h : Q0r.N a1 aa af ai aj a7 a9 ac a8 ah a4 a2 ab ae ad a5 a3 a0 a6 ag R w) : Calls Try.prog 35 #[.agg #[.int .i64 a1, .int .i64 aa, .int .u64 af, .int .i64 ai, .int .i64 aj, .int .i64 a7, .slice a9 ac a8, .int .u64 ah], .agg #[.int .i64 a4, .int .i64 a2, .int .u64 ab, .int .i64 ae, .int .i64 ad, .int .i64 a5, .slice a3 a0 a6, .int .u64 ag]] w fun e w' => ∃ v, e = .returned v ∧ R v w' := Q0r.ok a1 aa af ai aj a7 a9 ac a8 ah a4 a2 ab ae ad a5 a3 a0 a6 ag (Q0r.up a1 aa af ai aj a7 a9 ac a8 ah a4 a2 ab ae ad a5 a3 a0 a6 ag h)
theorem Q0r.run (a1 aa af ai aj a7 : Int) (a9 : Option Addr) (ac a8 : Nat) (ah a4 a2 ab ae ad a5 : Int) (a3 : Option Addr) (a0 a6 : Nat) (ag : Int) {V : Value} {Q : World → Prop} {w : World} (h : Q0r.N a1 aa af ai aj a7 a9 ac a8 ah a4 a2 ab ae ad a5 a3 a0 a6 ag (fun v w' => v = V ∧ Q w') w) : Calls Try.prog 35 #[.agg #[.int .i64 a1, .int .i64 aa, .int .u64 af, .int .i64 ai, .int .i64 aj, .int .i64 a7, .slice a9 ac a8, .int .u64 ah], .agg #[.int .i64 a4, .int .i64 a2, .int .u64 ab, .int .i64 ae, .int .i64 ad, .int .i64 a5, .slice a3 a0 a6, .int .u64 ag]] w (Ret V Q) := (Q0r.go a1 aa af ai aj a7 a9 ac a8 ah a4 a2 ab ae ad a5 a3 a0 a6 ag h).mono fun e w' ⟨v, he, hv, hq⟩ => ⟨by rw [he, hv], hq⟩

section
variable {w w' : World} {a : Option Addr} {c N p : Nat} {bs : List UInt8} {k : Int}
theorem Q4W {t s : Int} (h0 : -9223372036854775808 ≤ t) (h1 : t < 9223372036854775808) (hs : s < 9223372036854775808) :
    Calls Try.prog 95 #[.agg #[.int .i64 t, .int .i64 s]] w (fun e w' => ∃ a' c', e = .returned (.slice a' (stampL t s).length c') ∧ OwnB w.heap.size w' a' c' (stampL t s) ∧ Ext no w w') := by
  refine (Q0H.go _ _ (R := fun v w' => ∃ a' c', v = (.slice a' (stampL t s).length c') ∧ OwnB w.heap.size w' a' c' (stampL t s) ∧ Ext no w w') ?_).mono fun e w' ⟨v, he, a, c, hv, hw⟩ => ⟨a, c, by rw [he, hv], hw⟩
  unfold Q0H.N
  intro w4 p5 X4 hp
  have hp := hp.one
  have e1 : IntKind.u64.wrap (if (0 : Int) > s then 0 else s) = ((s.toNat : Nat) : Int) := by split <;> rw [wu64 (by omega) (by omega)] <;> omega
  rw [e1]
  have g1 := W.numL_le (zig t); have g2 := W.numL_le s.toNat
  refine (Q3N h0 h1).mono fun e w8 ⟨a8, c8, he, hO, X8⟩ => ⟨a8, _, c8, he, X8.kept, ?_⟩
  refine (W.rNum_spec s.toNat w8 (by omega)).mono fun e w11 ⟨a11, c11, he, hO2, X11⟩ => ⟨a11, _, c11, he, ?_⟩
  obtain ⟨a', c', w13, hr, hB, Y, _, _⟩ := app (w0 := w) hO (X4.trans X8) X4.size X8.size X11 (xc := c11) hO2.row (by omega)
  exact ⟨a', _, c', w13, hr, a', c', rfl, OwnB.up hB X4.size, Y⟩
theorem Q4F {e : Ent} (hf : Q0t e = true → e.fit) {ba : Option Addr} {bc : Nat} (hb : RowAt w ba (bytesV e.body)) :
    Calls Try.prog 84 #[entV e ba bc] w (fun x w' => Ext no w w' ∧ ((Q0t e = false ∧ x = .returned (.tuple #[.slice none 0 0, .int .i64 1])) ∨ (Q0t e = true ∧ ∃ a' c', x = .returned (.tuple #[.slice a' (textL e).length c', .int .i64 0]) ∧ OwnB w.heap.size w' a' c' (textL e)))) := by
  refine (Q0p.go e.w e.i e.pv e.t e.tw e.ep ba e.body.length bc e.sg (R := fun v w' => Ext no w w' ∧ ((Q0t e = false ∧ v = (.tuple #[.slice none 0 0, .int .i64 1])) ∨ (Q0t e = true ∧ ∃ a' c', v = (.tuple #[.slice a' (textL e).length c', .int .i64 0]) ∧ OwnB w.heap.size w' a' c' (textL e)))) ?_).mono fun x w' ⟨v, he, hx, hv⟩ => ⟨hx, hv.imp (fun ⟨h1, h2⟩ => ⟨h1, by rw [he, h2]⟩) fun ⟨h1, a, c, h2, h3⟩ => ⟨h1, a, c, by rw [he, h2], h3⟩⟩
  unfold Q0p.N
  rw [Q1D]
  refine ⟨fun h w10 X => ⟨X, .inl ⟨h, rfl⟩⟩, fun h w9 p X9 hp => ?_⟩
  have hp := hp.one
  have hf := hf h
  obtain ⟨h1, h2, h3, h4, h5, h6, h7, h8, h9, h10, h11⟩ := (Q18 e).1 h
  have f1 := hf.pv0; have f2 := hf.pv1
  rw [wu64 (n := e.w) h1 (by omega), wu64 (n := e.i) h3 (by omega), ← Int.toNat_of_nonneg h1, ← Int.toNat_of_nonneg h3, ← Int.toNat_of_nonneg f1]
  have g1 := W.numL_le e.w.toNat; have g2 := W.numL_le e.i.toNat; have g3 := W.numL_le e.pv.toNat; have g4 := Q2X e.t e.tw; have g5 := W.numL_le (zig e.ep); have g6 := W.numL_le e.body.length
  refine (W.rNum_spec e.w.toNat w9 (by omega)).mono fun x w17 ⟨a1, c1, he, hB, X17⟩ => ⟨a1, _, c1, he, X17.kept, ?_⟩
  have Y := X9.trans X17
  have hN := X17.size
  have h0 := X9.size
  refine (W.rNum_spec e.i.toNat w17 (by omega)).mono fun x w20 ⟨a2, c2, he, hO, X20⟩ => ⟨a2, _, c2, he, X20.kept, ?_⟩
  obtain ⟨a3, c3, w22, hr, hB, Y, XA, hN⟩ := app hB Y h0 hN X20 (xc := c2) hO.row (by (try simp only [List.length_append]) <;> omega)
  refine ⟨a3, _, c3, w22, hr, keep1 XA (by omega), ?_⟩
  refine (W.rNum_spec e.pv.toNat w22 (by omega)).mono fun x w25 ⟨a2, c2, he, hO, X25⟩ => ⟨a2, _, c2, he, X25.kept, ?_⟩
  obtain ⟨a3, c3, w27, hr, hB, Y, XA, hN⟩ := app hB Y h0 hN X25 (xc := c2) hO.row (by (try simp only [List.length_append]) <;> omega)
  refine ⟨a3, _, c3, w27, hr, keep1 XA (by omega), ?_⟩
  refine (Q4W (by omega) (by omega) (by omega)).mono fun x w30 ⟨a2, c2, he, hO, X30⟩ => ⟨a2, _, c2, he, X30.kept, ?_⟩
  obtain ⟨a3, c3, w32, hr, hB, Y, XA, hN⟩ := app hB Y h0 hN X30 (xc := c2) hO.row (by (try simp only [List.length_append]) <;> omega)
  refine ⟨a3, _, c3, w32, hr, keep1 XA (by omega), ?_⟩
  refine (Q3N (by omega) (by omega)).mono fun x w35 ⟨a2, c2, he, hO, X35⟩ => ⟨a2, _, c2, he, X35.kept, ?_⟩
  obtain ⟨a3, c3, w37, hr, hB, Y, XA, hN⟩ := app hB Y h0 hN X35 (xc := c2) hO.row (by (try simp only [List.length_append]) <;> omega)
  refine ⟨a3, _, c3, w37, hr, keep1 XA (by omega), ?_⟩
  refine (Q1L (hb.no Y) (by omega)).mono fun x w40 ⟨a2, c2, he, hO, X40⟩ => ⟨a2, _, c2, he, ?_⟩
  obtain ⟨a3, c3, w42, hr, hB, Y, XA, hN⟩ := app hB Y h0 hN X40 (xc := c2) hO.row (by (try simp only [List.length_append]) <;> omega)
  exact ⟨a3, _, c3, w42, hr, Y, .inr ⟨h, a3, c3, rfl, OwnB.up hB h0⟩⟩
theorem Q3M {e : Ent} (hf : Q0t e = true → e.fit) {ba : Option Addr} {bc : Nat} (hb : RowAt w ba (bytesV e.body)) :
    Calls Try.prog 64 #[entV e ba bc] w (fun x w' => Ext no w w' ∧ ((Q0t e = false ∧ x = .returned (.tuple #[.slice none 0 0, .int .i64 1])) ∨ (Q0t e = true ∧ ∃ a' c', x = .returned (.tuple #[.slice a' (bytesL e).length c', .int .i64 0]) ∧ OwnB w.heap.size w' a' c' (bytesL e)))) := by
  refine (Q0l.go e.w e.i e.pv e.t e.tw e.ep ba e.body.length bc e.sg (R := fun v w' => Ext no w w' ∧ ((Q0t e = false ∧ v = (.tuple #[.slice none 0 0, .int .i64 1])) ∨ (Q0t e = true ∧ ∃ a' c', v = (.tuple #[.slice a' (bytesL e).length c', .int .i64 0]) ∧ OwnB w.heap.size w' a' c' (bytesL e)))) ?_).mono fun x w' ⟨v, he, hx, hv⟩ => ⟨hx, hv.imp (fun ⟨h1, h2⟩ => ⟨h1, by rw [he, h2]⟩) fun ⟨h1, a, c, h2, h3⟩ => ⟨h1, a, c, by rw [he, h2], h3⟩⟩
  unfold Q0l.N
  intro w9 p X9 hp
  refine (Q4F hf (hb.no X9)).mono fun x w14 ⟨X14, hor⟩ => ?_
  rcases hor with ⟨h, he⟩ | ⟨h, a1, c1, he, hB⟩
  · exact ⟨_, _, _, _, he, X14.kept, fun _ => ⟨X9.trans X14, .inl ⟨h, rfl⟩⟩, fun h => absurd h (by decide)⟩
  · have hf := hf h
    have f3 := hf.sg0; have f4 := hf.sg1
    have hbl := ((Q18 e).1 h).2.2.2.2.2.2.2.2.2.1
    have htl := Q3w e
    have g1 := W.numL_le e.sg.toNat
    rw [← Int.toNat_of_nonneg f3]
    refine ⟨_, _, _, _, he, X14.kept, fun h => absurd rfl h, fun _ => ?_⟩
    refine (W.rNum_spec e.sg.toNat w14 (by omega)).mono fun x w18 ⟨a2, c2, he, hO, X18⟩ => ⟨a2, _, c2, he, ?_⟩
    obtain ⟨a3, c3, w20, hr, hB, Y, XA, hN⟩ := app hB (X9.trans X14) X9.size X14.size X18 (xc := c2) hO.row (by omega)
    exact ⟨a3, _, c3, w20, hr, Y, .inr ⟨h, a3, c3, rfl, OwnB.up hB X9.size⟩⟩
theorem Q57 (h : RdR w p N bs k) (hl : bs.length < 1000000) :
    Calls Try.prog 85 #[.pointer (some (blk p))] w (GivesW (.agg #[.int .i64 (stampR (bs, k)).1.1, .int .i64 (stampR (bs, k)).1.2]) fun w' => RdR w' p N (stampR (bs, k)).2.1 (stampR (bs, k)).2.2 ∧ Ext (fun b => b = p) w w') := by
  refine (Q0v.run _ (Q := fun w' => RdR w' p N (stampR (bs, k)).2.1 (stampR (bs, k)).2.2 ∧ Ext (fun b => b = p) w w') ?_)
  unfold Q0v.N
  intro w2 p3 X2 hp
  have hp := hp.one
  have hpp : p < p3 := by have := h.lt; omega
  refine (Q3k (h.no X2) hl).mono fun e w6 ⟨he, h6, X6⟩ => ⟨_, he, keep1 X6 (by omega), ?_⟩
  have hlen := Q2E (bs, k)
  have hc := W.rCount_spec h6 (by simp only at hlen; omega) (m := 7) (by decide) (by decide)
  refine hc.mono fun e w9 ⟨he, h9, X9⟩ => ⟨_, he, keep1 X9 (by omega), fun w11 X11 => ?_⟩
  have h11 := h9.up X11 fun b hb => by omega
  exact ⟨rfl, h11, (((X2.none.trans X6).trans X9)).then X11 fun b hb => .inr (by omega)⟩
def entT (s : RS) : Ent := { entR s with ep := if (entR s).ep < -1 ∨ (entR s).ep > 20 then -9 else (entR s).ep }
theorem Q22 (h : RdR w p N bs k) (hl : bs.length < 1000000) :
    Calls Try.prog 66 #[.pointer (some (blk p))] w (fun e w' => ∃ a' c', e = .returned (entV (entT (bs, k)) a' c') ∧ (entT (bs, k)).body.length ≤ c' ∧ RowAt w' a' (bytesV (entT (bs, k)).body) ∧ (bytesV (entT (bs, k)).body ≠ [] → ∀ ad, a' = some ad → ad.block < N) ∧ RdR w' p N (entR7 (bs, k)).1 (entR7 (bs, k)).2 ∧ Ext (fun b => b = p) w w') := by
  refine (Q0g.go _ (R := fun v w' => ∃ a' c', v = (entV (entT (bs, k)) a' c') ∧ (entT (bs, k)).body.length ≤ c' ∧ RowAt w' a' (bytesV (entT (bs, k)).body) ∧ (bytesV (entT (bs, k)).body ≠ [] → ∀ ad, a' = some ad → ad.block < N) ∧ RdR w' p N (entR7 (bs, k)).1 (entR7 (bs, k)).2 ∧ Ext (fun b => b = p) w w') ?_).mono fun e w' ⟨v, he, a, c, hv, hw⟩ => ⟨a, c, by rw [he, hv], hw⟩
  unfold Q0g.N
  intro w11 p12 p13 Y11' hp
  obtain ⟨hp12, hp13⟩ := hp.two
  have hpl := h.lt
  have Y11 : Ext (fun b => b = p) w w11 := Y11'.none
  obtain ⟨L1, L2, L3, L4, L5, L6, L7⟩ := Q4n (bs, k)
  simp only at L1 L2 L3 L4 L5 L6 L7
  have new : ∀ {w1 w2 : World}, Ext (fun b => b = p) w w1 → Ext (fun b => b = p) w1 w2 → Ext (fun b => b = p) w w2 := fun h1 h2 => h1.trans h2
  have new13 : ∀ {w1 w2 : World}, Ext (fun b => b = p) w w1 → Ext (fun b => b = p13) w1 w2 → Ext (fun b => b = p) w w2 := fun h1 h2 => h1.then h2 fun b hb => .inr (by omega)
  have new1213 : ∀ {w1 w2 : World}, Ext (fun b => b = p) w w1 → Ext (fun b => b = p12 ∨ b = p13) w1 w2 → Ext (fun b => b = p) w w2 := fun h1 h2 => h1.then h2 fun b hb => .inr (by omega)
  have up13 : ∀ b, b = p13 → p < b := fun b hb => by omega
  have k12 : ¬ (p12 = p) := by omega
  have k13 : ¬ (p13 = p) := by omega
  refine (W.rCount_spec (h.no Y11') hl (m := 7) (by decide) (by decide)).mono fun e w16 ⟨he, hr16, X16⟩ => ⟨_, he, keep2 X16 k12 k13, fun w17 X17 => ?_⟩
  refine (W.rCount_spec (bs := (entR1 (bs, k)).1) (k := (entR1 (bs, k)).2) (hr16.up X17 up13) (by omega) (m := 199) (by decide) (by decide)).mono fun e w20 ⟨he, hr20, X20⟩ => ⟨_, he, keep2 X20 k12 k13, fun w21 X21 => ?_⟩
  refine (W.rRNum_spec (bs := (entR2 (bs, k)).1) (k := (entR2 (bs, k)).2) (hr20.up X21 up13) (by omega)).mono fun e w24 ⟨he, hr24, X24⟩ => ⟨_, he, keep2 X24 k12 k13, fun w25 X25 => ?_⟩
  refine (Q57 (bs := (entR3 (bs, k)).1) (k := (entR3 (bs, k)).2) (hr24.up X25 up13) (by omega)).mono fun e w29 ⟨he, hr29, X29⟩ => ⟨_, _, he, keep2 X29 k12 k13, fun w31 X31 => ?_⟩
  refine (Q3k (bs := (entR4 (bs, k)).1) (k := (entR4 (bs, k)).2) (hr29.up X31 up13) (by omega)).mono fun e w34 ⟨he, hr34, X34⟩ => ⟨_, he, keep2 X34 k12 k13, ?_⟩
  refine ⟨fun hn w37 XX => ?_, fun hn => ⟨fun hn2 w55 XX => ?_, fun hn2 w35 XX => ?_⟩⟩
  · skip
    have Y34 := new (new13 (new (new13 (new (new13 (new (new13 (new Y11 X16) X17) X20) X21) X24) X25) X29) X31) X34
    refine (Q17 (bs := (entR5 (bs, k)).1) (k := (entR5 (bs, k)).2) (hr34.up XX up13) (by omega) (m := 1100) (by decide) (by decide)).mono fun e w40 ⟨ba, bc, he, hle, hrow, hbp, hr40, X40⟩ => ⟨ba, _, bc, he, keep2 X40 k12 k13, fun w41 X41 => ?_⟩
    refine (W.rRNum_spec (bs := (entR6 (bs, k)).1) (k := (entR6 (bs, k)).2) (hr40.up X41 up13) (by omega)).mono fun e w44 ⟨he, hr44, X44⟩ => ⟨_, he, keep2 X44 k12 k13, fun w53 X53 => ?_⟩
    refine ⟨ba, bc, ?_, hle, ?_, hbp, hr44.up X53 fun b hb => by omega, new1213 (new (new13 (new (new13 Y34 XX) X40) X41) X44) X53⟩
    · unfold entT
      first
        | rw [if_pos (.inl (show (entR (bs, k)).ep < -1 from ‹_›))]
        | rw [if_pos (.inr (show (entR (bs, k)).ep > 20 from ‹_›))]
        | rw [if_neg (show ¬ ((entR (bs, k)).ep < -1 ∨ (entR (bs, k)).ep > 20) from fun h => h.elim (fun h => absurd hn (Int.not_le.2 h)) (fun h => absurd hn2 (Int.not_le.2 h)))]
      rfl
    · refine ((hrow.ext' X41 fun h0 ad ha hb => ?_).ext' X44 fun h0 ad ha hb => ?_).ext' X53 fun h0 ad ha hb => ?_
      · have := hbp h0 ad ha; have := h.1; omega
      · have := hbp h0 ad ha; have := h.1; omega
      · have := hbp h0 ad ha; have := h.1; omega
  · skip
    have Y34 := new (new13 (new (new13 (new (new13 (new (new13 (new Y11 X16) X17) X20) X21) X24) X25) X29) X31) X34
    refine (Q17 (bs := (entR5 (bs, k)).1) (k := (entR5 (bs, k)).2) (hr34.up XX up13) (by omega) (m := 1100) (by decide) (by decide)).mono fun e w40 ⟨ba, bc, he, hle, hrow, hbp, hr40, X40⟩ => ⟨ba, _, bc, he, keep2 X40 k12 k13, fun w41 X41 => ?_⟩
    refine (W.rRNum_spec (bs := (entR6 (bs, k)).1) (k := (entR6 (bs, k)).2) (hr40.up X41 up13) (by omega)).mono fun e w44 ⟨he, hr44, X44⟩ => ⟨_, he, keep2 X44 k12 k13, fun w53 X53 => ?_⟩
    refine ⟨ba, bc, ?_, hle, ?_, hbp, hr44.up X53 fun b hb => by omega, new1213 (new (new13 (new (new13 Y34 XX) X40) X41) X44) X53⟩
    · unfold entT
      first
        | rw [if_pos (.inl (show (entR (bs, k)).ep < -1 from ‹_›))]
        | rw [if_pos (.inr (show (entR (bs, k)).ep > 20 from ‹_›))]
        | rw [if_neg (show ¬ ((entR (bs, k)).ep < -1 ∨ (entR (bs, k)).ep > 20) from fun h => h.elim (fun h => absurd hn (Int.not_le.2 h)) (fun h => absurd hn2 (Int.not_le.2 h)))]
      rfl
    · refine ((hrow.ext' X41 fun h0 ad ha hb => ?_).ext' X44 fun h0 ad ha hb => ?_).ext' X53 fun h0 ad ha hb => ?_
      · have := hbp h0 ad ha; have := h.1; omega
      · have := hbp h0 ad ha; have := h.1; omega
      · have := hbp h0 ad ha; have := h.1; omega
  · skip
    have Y34 := new (new13 (new (new13 (new (new13 (new (new13 (new Y11 X16) X17) X20) X21) X24) X25) X29) X31) X34
    refine (Q17 (bs := (entR5 (bs, k)).1) (k := (entR5 (bs, k)).2) (hr34.up XX up13) (by omega) (m := 1100) (by decide) (by decide)).mono fun e w40 ⟨ba, bc, he, hle, hrow, hbp, hr40, X40⟩ => ⟨ba, _, bc, he, keep2 X40 k12 k13, fun w41 X41 => ?_⟩
    refine (W.rRNum_spec (bs := (entR6 (bs, k)).1) (k := (entR6 (bs, k)).2) (hr40.up X41 up13) (by omega)).mono fun e w44 ⟨he, hr44, X44⟩ => ⟨_, he, keep2 X44 k12 k13, fun w53 X53 => ?_⟩
    refine ⟨ba, bc, ?_, hle, ?_, hbp, hr44.up X53 fun b hb => by omega, new1213 (new (new13 (new (new13 Y34 XX) X40) X41) X44) X53⟩
    · unfold entT
      first
        | rw [if_pos (.inl (show (entR (bs, k)).ep < -1 from ‹_›))]
        | rw [if_pos (.inr (show (entR (bs, k)).ep > 20 from ‹_›))]
        | rw [if_neg (show ¬ ((entR (bs, k)).ep < -1 ∨ (entR (bs, k)).ep > 20) from fun h => h.elim (fun h => absurd hn (Int.not_le.2 h)) (fun h => absurd hn2 (Int.not_le.2 h)))]
      rfl
    · refine ((hrow.ext' X41 fun h0 ad ha hb => ?_).ext' X44 fun h0 ad ha hb => ?_).ext' X53 fun h0 ad ha hb => ?_
      · have := hbp h0 ad ha; have := h.1; omega
      · have := hbp h0 ad ha; have := h.1; omega
      · have := hbp h0 ad ha; have := h.1; omega
theorem Q3j (s : RS) : Q0t (entT s) = Q0t (entR s) ∧ (Q0t (entR s) = true → entT s = entR s) := by
  unfold entT
  by_cases h : (entR s).ep < -1 ∨ (entR s).ep > 20
  · rw [if_pos h]
    have h1 : Q0t { entR s with ep := -9 } = false := decide_eq_false (by show ¬ (_ ∧ _ ∧ _ ∧ _ ∧ (-1 : Int) ≤ -9 ∧ _); omega)
    have h2 : Q0t (entR s) = false := decide_eq_false (by omega)
    rw [h1, h2]
    exact ⟨rfl, fun h => by cases h⟩
  · rw [if_neg h]; exact ⟨rfl, fun _ => rfl⟩
theorem rRead_spec (h : RowAt w a (bytesV bs)) (hc : bs.length ≤ c) (hl : bs.length < 1000000) :
    Calls Try.prog 47 #[.slice a bs.length c] w (fun e w' => ∃ a' c', e = .returned (.tuple #[entV (readE bs).1 a' c', .int .i64 (readE bs).2]) ∧ RowAt w' a' (bytesV (readE bs).1.body) ∧ Ext no w w') := by
  refine (Q0i.go _ _ _ (R := fun v w' => ∃ a' c', v = (.tuple #[entV (readE bs).1 a' c', .int .i64 (readE bs).2]) ∧ RowAt w' a' (bytesV (readE bs).1.body) ∧ Ext no w w') ?_).mono fun e w' ⟨v, he, a, c, hv, hw⟩ => ⟨a, c, by rw [he, hv], hw⟩
  unfold Q0i.N
  intro w3 q4 p5 X3 hq hq1 hq2 hp5
  have hp5 := hp5.one
  have hR : RdR w3 q4 w.heap.size bs 0 := ⟨hq1, a, c, hq, hc, h.no X3, fun h0 ad ha => by exact h.lt (fun e => h0 e) ha⟩
  refine (Q22 hR hl).mono fun e w15 ⟨ba, bc, he, hle, hrow, hbp, hr15, X15⟩ => ⟨_, _, _, _, _, _, _, _, _, _, he, keep1 X15 (by omega), fun w24 p25 X24 hp25 => ?_⟩
  have hp25 := hp25.one
  have Y24 : Ext no w w24 := (X3.then X15 fun b hb => .inr (by omega)).trans X24
  refine (W.rDone_spec (hr15.no X24)).mono fun e w28 ⟨he, hw⟩ => ⟨_, he, by subst hw; exact Keep.refl _ _, ?_⟩
  subst hw
  obtain ⟨g1, g2⟩ := Q3j (bs, 0)
  have new5 : ∀ {w1 w2 : World}, Ext no w w1 → Ext (fun b => b = p5) w1 w2 → Ext no w w2 := fun h1 h2 => h1.then h2 fun b hb => .inr (by omega)
  have hF : Q03.F (entT (bs, 0)).w (entT (bs, 0)).i (entT (bs, 0)).pv (entT (bs, 0)).t (entT (bs, 0)).tw (entT (bs, 0)).ep ba (entT (bs, 0)).body.length bc (entT (bs, 0)).sg = Q0t (entR (bs, 0)) := (Q1D _ _ _).trans g1
  rw [hF]
  refine ⟨fun hd w37 X37 => ?_, fun hd => ⟨fun hr w49 X49 => ?_, fun hr w57 X57 => ?_⟩⟩
  · have : readE bs = (Ent.zero, doneR (entR7 (bs, 0))) := by unfold readE; rw [if_pos hd]
    rw [this]
    exact ⟨none, 0, rfl, RowAt.nil _ _, new5 Y24 X37⟩
  · have : readE bs = (Ent.zero, 4) := by unfold readE; rw [if_neg (by rw [hd]; simp), if_neg (by rw [hr]; simp)]
    rw [this]
    exact ⟨none, 0, rfl, RowAt.nil _ _, new5 Y24 X49⟩
  · have : readE bs = (entR (bs, 0), 0) := by unfold readE; rw [if_neg (by rw [hd]; simp), if_pos hr]
    rw [this]
    rw [g2 hr] at hrow hbp ⊢
    refine ⟨ba, bc, rfl, (hrow.no X24).ext' X57 fun h0 ad ha hb => ?_, new5 Y24 X57⟩
    have := hbp h0 ad ha
    omega
theorem Q2e {e f : Ent} {b : Option Addr} {d : Nat} (ha : RowAt w a (bytesV e.body)) (hb : RowAt w b (bytesV f.body)) (hl : e.body.length < 1000000) :
    Calls Try.prog 35 #[entV e a c, entV f b d] w (Ret (.bool (decide (e = f))) fun w' => Ext no w w') := by
  refine Q0r.run _ _ _ _ _ _ _ _ _ _ _ _ _ _ _ _ _ _ _ _ ?_
  unfold Q0r.N
  obtain ⟨e1, e2, e3, e4, e5, e6, e7, e8⟩ := e
  obtain ⟨f1, f2, f3, f4, f5, f6, f7, f8⟩ := f
  simp only [Ent.mk.injEq]
  refine ⟨fun c1 => ⟨fun c2 => ⟨fun c3 => ⟨fun c4 => ⟨fun c5 => ⟨fun c6 w18 X => ?_, fun c6 w18 X => ⟨?_, X⟩⟩, fun c5 w18 X => ⟨?_, X⟩⟩, fun c4 w18 X => ⟨?_, X⟩⟩, fun c3 w18 X => ⟨?_, X⟩⟩, fun c2 w18 X => ⟨?_, X⟩⟩, fun c1 w18 X => ⟨?_, X⟩⟩
  · refine (W.sameB_spec (ha.no X) (hb.no X) hl).mono fun x w31 ⟨he, X31⟩ => ⟨_, he, ?_, X.trans X31⟩
    congr 1; rw [Bool.eq_iff_iff, decide_eq_true_eq, decide_eq_true_eq]; exact ⟨fun h => ⟨c1, c2, c3, c4.1, c4.2, c5, h, c6⟩, fun h => h.2.2.2.2.2.2.1⟩
  · rw [decide_eq_false fun h => c6 h.2.2.2.2.2.2.2]
  · rw [decide_eq_false fun h => c5 h.2.2.2.2.2.1]
  · rw [decide_eq_false fun h => c4 ⟨h.2.2.2.1, h.2.2.2.2.1⟩]
  · rw [decide_eq_false fun h => c3 h.2.2.1]
  · rw [decide_eq_false fun h => c2 h.2.1]
  · rw [decide_eq_false fun h => c1 h.1]
end
def vRight.M (aj : Option Addr) (ag an : Nat) (R : RW) (w : World) : Prop :=
 ∃ (I0 : Nat → List Value → World → Prop) (m3 : Nat), I0 m3 [.int .i64 0] w ∧ ∀ (m4 : Nat) (a7 : World) (t2 : Int), I0 m4 [.int .i64 t2] a7 →
 bif decide (t2 < (ag : Int)) then (
 aj.elim False fun a6 =>
 0 ≤ (t2 : Int) ∧ (t2 : Int) < (ag : Int) ∧
 ∃ (a3 aa ab : Int), cellsAt a7 (a6.add (Int.toNat t2 * 3)) [.int .i64 a3, .int .i64 aa, .int .u64 ab] 0 ∧
 thenW (a7.alloc (.cells #[.int .i64 0, .int .i64 0, .int .u64 0] 66)) fun ac =>
 Q01 ac ((blk a7.heap.size).add 0) ∧
 thenW (ac.setCell ((blk a7.heap.size).add 0) (.int .i64 a3)) fun af =>
 Q01 af ((blk a7.heap.size).add 1) ∧
 thenW (af.setCell ((blk a7.heap.size).add 1) (.int .i64 aa)) fun ad =>
 Q01 ad ((blk a7.heap.size).add 2) ∧
 thenW (ad.setCell ((blk a7.heap.size).add 2) (.int .u64 ab)) fun ai =>
 thenW (ai.drew) fun ae =>
 ∃ (a1 a8 a9 : Int), cellsAt ae (blk a7.heap.size) [.int .i64 a1, .int .i64 a8, .int .u64 a9] 0 ∧
 Calls Try.prog 63 #[.agg #[.int .i64 a1, .int .i64 a8, .int .u64 a9]] ae fun ah a5 => ∃ (a0 : Bool), ah = .returned (.bool a0) ∧
 bif !a0 then (
 R (.bool false) a5) else (
 bif decide (t2 > 0) then (
 ∃ (a4 : Int), a5.cell? ((blk a7.heap.size).add 0) = some (.int .i64 a4) ∧
 aj.elim False fun am =>
 0 ≤ ((IntKind.i64.wrap (t2 - 1)) : Int) ∧ ((IntKind.i64.wrap (t2 - 1)) : Int) < (ag : Int) ∧
 ∃ (a2 : Int), a5.cell? ((am.add (Int.toNat (IntKind.i64.wrap (t2 - 1)) * 3)).add 0) = some (.int .i64 a2) ∧
 bif decide (a4 ≤ a2) then (
 R (.bool false) a5) else (
 ∃ al, al < m4 ∧ I0 al [.int .i64 (IntKind.i64.wrap (t2 + 1))] a5)) else (
 ∃ ak, ak < m4 ∧ I0 ak [.int .i64 (IntKind.i64.wrap (t2 + 1))] a5))) else (
 R (.bool true) a7)

theorem vRight.ok (a1 : Option Addr) (a0 a2 : Nat) {R : RW} {w : World} (h : vRight.M a1 a0 a2 R w) : Calls Try.prog 38 #[.slice a1 a0 a2] w fun e w' => ∃ v, e = .returned v ∧ R v w' :=
  Q08 follows (H := [(0, [0, 5, 6], [(7, (.one (.int .i64)))])]) (args := [.slice a1 a0 a2]) (cast (by kernel_rfl) h)

def vrh.M (a2 a6 a7 : Int) (R : RW) (w : World) : Prop :=
 thenW (w.alloc (.cells #[.int .i64 a2, .int .i64 a6, .int .u64 a7] 66)) fun a3 =>
 ∃ (a1 : Int), a3.cell? ((blk w.heap.size).add 0) = some (.int .i64 a1) ∧
 bif decide (a1 ≥ 0) then (
 ∃ (a0 : Int), a3.cell? ((blk w.heap.size).add 0) = some (.int .i64 a0) ∧
 bif decide (a0 < 8) then (
 ∃ (a8 : Int), a3.cell? ((blk w.heap.size).add 1) = some (.int .i64 a8) ∧
 bif decide (a8 > 0) then (
 ∃ (a4 : Int), a3.cell? ((blk w.heap.size).add 1) = some (.int .i64 a4) ∧
 bif decide (a4 ≤ 200) then (
 ∃ (a5 : Int), a3.cell? ((blk w.heap.size).add 2) = some (.int .u64 a5) ∧
 R (.bool (a5 != 0)) a3) else (
 R (.bool false) a3)) else (
 R (.bool false) a3)) else (
 R (.bool false) a3)) else (
 R (.bool false) a3)

theorem vrh.ok (a0 a1 a2 : Int) {R : RW} {w : World} (h : vrh.M a0 a1 a2 R w) : Calls Try.prog 63 #[.agg #[.int .i64 a0, .int .i64 a1, .int .u64 a2]] w fun e w' => ∃ v, e = .returned v ∧ R v w' :=
  Q08 follows (H := []) (args := [.agg #[.int .i64 a0, .int .i64 a1, .int .u64 a2]]) (cast (by kernel_rfl) h)

def GivesV (v : Value) (Q : World → Prop) (e : Ending) (w' : World) : Prop := e = .returned v ∧ Q w'
abbrev Hd := Int × Int × Int
def hdC (h : Hd) : List Value := [.int .i64 h.1, .int .i64 h.2.1, .int .u64 h.2.2]
def hdV (h : Hd) : Value := .agg #[.int .i64 h.1, .int .i64 h.2.1, .int .u64 h.2.2]
def hsC (hs : List Hd) : List Value := hs.flatMap hdC
theorem Q3l : ∀ hs : List Hd, (hsC hs).length = hs.length * 3
  | [] => rfl
  | h :: r => by
    have := Q3l r
    simp only [hsC, List.flatMap_cons, List.length_append, List.length_cons] at this ⊢
    rw [this]; simp [hdC]; omega
theorem hsC_get : ∀ {hs : List Hd} {i : Nat} {h : Hd}, hs[i]? = some h → ∀ j, j < 3 → (hsC hs)[i * 3 + j]? = (hdC h)[j]?
  | [], i, h, hi, j, hj => by simp at hi
  | a :: r, 0, h, hi, j, hj => by
    simp only [List.getElem?_cons_zero, Option.some.injEq] at hi
    subst hi
    simp only [hsC, List.flatMap_cons, Nat.zero_mul, Nat.zero_add]
    rw [List.getElem?_append_left (by simp [hdC]; omega)]
  | a :: r, i + 1, h, hi, j, hj => by
    simp only [List.getElem?_cons_succ] at hi
    have := hsC_get hi j hj
    simp only [hsC, List.flatMap_cons] at this ⊢
    rw [List.getElem?_append_right (by simp [hdC]; omega), show (i + 1) * 3 + j - (hdC a).length = i * 3 + j by simp [hdC]; omega]
    exact this
theorem hs_cell {w : World} {ad : Addr} {hs : List Hd} (hr : RowAt w (some ad) (hsC hs)) {i : Nat} {h : Hd} (hi : hs[i]? = some h) {j : Nat} {v : Value} (hv : (hdC h)[j]? = some v) : w.cell? ((ad.add (i * 3)).add j) = some v := by
  have hj : j < 3 := by have := (List.getElem?_eq_some_iff.1 hv).1; simpa [hdC] using this
  rw [add_add]
  exact hr.at_ ((hsC_get hi j hj).trans hv)
theorem hs_at {w : World} {ad : Addr} {hs : List Hd} (hr : RowAt w (some ad) (hsC hs)) {i : Nat} {h : Hd} (hi : hs[i]? = some h) : cellsAt w (ad.add (i * 3)) [.int .i64 h.1, .int .i64 h.2.1, .int .u64 h.2.2] 0 :=
  ⟨hs_cell hr hi (j := 0) rfl, hs_cell hr hi (j := 1) rfl, hs_cell hr hi (j := 2) rfl, trivial⟩
theorem hsC_ne {hs : List Hd} (h : hs ≠ []) : hsC hs ≠ [] := fun e => by
  have := Q3l hs
  rw [e] at this
  simp at this
  exact h (List.eq_nil_of_length_eq_zero (by omega))

def rhead (h : Hd) : Bool := decide (h.1 ≥ 0) && (decide (h.1 < 8) && (decide (h.2.1 > 0) && (decide (h.2.1 ≤ 200) && (h.2.2 != 0))))
def rightF : Option Int → List Hd → Bool
  | _, [] => true
  | p, h :: r => rhead h && (match p with | none => true | some q => decide (q < h.1)) && rightF (some h.1) r
def rightV (hs : List Hd) : Bool := rightF none hs
def prevOf (hs : List Hd) : Nat → Option Int
  | 0 => none
  | t + 1 => (hs[t]?).map (·.1)
theorem Q3E : ∀ {hs : List Hd} {p : Option Int}, rightF p hs = true → (∀ q, p = some q → ∀ h ∈ hs, q < h.1) ∧ (hs.map (·.1)).Pairwise (· < ·)
  | [], p, _ => ⟨fun q _ h hh => by simp at hh, by simp⟩
  | a :: r, p, h => by
    simp only [rightF, Bool.and_eq_true] at h
    obtain ⟨⟨h1, h2⟩, h3⟩ := h
    obtain ⟨i1, i2⟩ := Q3E h3
    refine ⟨fun q hq x hx => ?_, ?_⟩
    · subst hq
      simp only [decide_eq_true_eq] at h2
      rcases List.mem_cons.1 hx with rfl | hx
      · exact h2
      · have := i1 a.1 rfl x hx; omega
    · simp only [List.map_cons, List.pairwise_cons]
      refine ⟨fun b hb => ?_, i2⟩
      obtain ⟨x, hx, rfl⟩ := List.mem_map.1 hb
      exact i1 a.1 rfl x hx
section
variable {w w' : World} {a : Option Addr} {c : Nat} {hs : List Hd}
theorem Q3a (h : Hd) : Calls Try.prog 63 #[hdV h] w (GivesV (.bool (rhead h)) fun w' => Ext no w w') := by
  refine (vrh.ok _ _ _ (R := fun v w' => v = .bool (rhead h) ∧ Ext no w w') ?_).mono fun e w' ⟨v, he, hv, hw⟩ => ⟨by rw [he, hv], hw⟩
  unfold vrh.M
  refine Q02 fun w4 h4 => ?_
  have hb : Blk w4 w.heap.size 66 (hdC h) := by subst h4; exact Blk.new _ _ _
  have hx : Ext no w w4 := by subst h4; exact (Ext.refl _ _).alloc _
  refine ⟨_, hb.cella (i := 0) rfl, ?_⟩
  unfold rhead
  by_cases c1 : h.1 ≥ 0
  · rw [decide_eq_true c1, cond_true, Bool.true_and]
    refine ⟨_, hb.cella (i := 0) rfl, ?_⟩
    by_cases c2 : h.1 < 8
    · rw [decide_eq_true c2, cond_true, Bool.true_and]
      refine ⟨_, hb.cella (i := 1) rfl, ?_⟩
      by_cases c3 : h.2.1 > 0
      · rw [decide_eq_true c3, cond_true, Bool.true_and]
        refine ⟨_, hb.cella (i := 1) rfl, ?_⟩
        by_cases c4 : h.2.1 ≤ 200
        · rw [decide_eq_true c4, cond_true, Bool.true_and]
          exact ⟨_, hb.cella (i := 2) rfl, rfl, hx⟩
        · rw [decide_eq_false c4]; exact ⟨rfl, hx⟩
      · rw [decide_eq_false c3]; exact ⟨rfl, hx⟩
    · rw [decide_eq_false c2]; exact ⟨rfl, hx⟩
  · rw [decide_eq_false c1]; exact ⟨rfl, hx⟩

theorem Q1Y (hr : RowAt w a (hsC hs)) (hl : hs.length < 1000000) : Calls Try.prog 38 #[.slice a hs.length c] w (GivesV (.bool (rightV hs)) fun w' => Ext no w w') := by
  refine (vRight.ok _ _ _ (R := fun v w' => v = .bool (rightV hs) ∧ Ext no w w') ?_).mono fun e w' ⟨v, he, hv, hw⟩ => ⟨by rw [he, hv], hw⟩
  unfold vRight.M
  refine ⟨fun k vs w1 => ∃ t : Nat, vs = [.int .i64 t] ∧ k + t = hs.length ∧ rightF (prevOf hs t) (hs.drop t) = rightV hs ∧ Ext no w w1, hs.length, ⟨0, rfl, rfl, rfl, Ext.refl _ _⟩, ?_⟩
  rintro k w1 i ⟨t, hi, hk, hf, hx⟩
  simp only [List.cons.injEq, Value.int.injEq, true_and, and_true] at hi
  subst hi
  cases k with
  | zero =>
    obtain rfl : t = hs.length := by omega
    rw [show decide ((hs.length : Int) < (hs.length : Int)) = false by simp, cond_false]
    rw [List.drop_length] at hf
    exact ⟨by rw [← hf]; cases prevOf hs hs.length <;> rfl, hx⟩
  | succ k =>
    have ht : t < hs.length := by omega
    rw [show decide ((t : Int) < (hs.length : Int)) = true by simp; omega, cond_true]
    have hr1 := hr.no hx
    obtain ⟨ad, rfl⟩ := hr1.addr (hsC_ne (by intro e; subst e; simp at ht))
    have hgi : hs[t]? = some hs[t] := List.getElem?_eq_getElem ht
    refine ⟨by omega, by omega, _, _, _, by rw [Int.toNat_natCast]; exact hs_at hr1 hgi, Q02 fun w10 h10 => ?_⟩
    have hb10 : Blk w10 w1.heap.size 66 [.int .i64 0, .int .i64 0, .int .u64 0] := by subst h10; exact Blk.new _ _ _
    have x10 : Ext no w1 w10 := by subst h10; exact (Ext.refl _ _).alloc _
    refine ⟨hb10.cana (i := 0) rfl, Q02 fun w11 h11 => ?_⟩
    have hb11 := hb10.seta 0 (.int .i64 hs[t].1)
    rw [← h11] at hb11
    have x11 : Ext no w1 w11 := by subst h11; exact x10.setCell (.inr (by rw [add_zero]; exact Nat.le_refl _)) _
    refine ⟨hb11.cana (i := 1) rfl, Q02 fun w12 h12 => ?_⟩
    have hb12 := hb11.seta 1 (.int .i64 hs[t].2.1)
    rw [← h12] at hb12
    have x12 : Ext no w1 w12 := by subst h12; exact x11.setCell (.inr (by rw [add_blk]; exact Nat.le_refl _)) _
    refine ⟨hb12.cana (i := 2) rfl, Q02 fun w13 h13 => Q02 fun w14 h14 => ?_⟩
    have hb13 := hb12.seta 2 (.int .u64 hs[t].2.2)
    rw [← h13] at hb13
    have x13 : Ext no w1 w13 := by subst h13; exact x12.setCell (.inr (by rw [add_blk]; exact Nat.le_refl _)) _
    have hb14 := hb13.drew
    rw [← h14] at hb14
    have x14 : Ext no w1 w14 := by subst h14; exact x13.drew
    refine ⟨_, _, _, ⟨hb14.cella (i := 0) rfl, hb14.cella (i := 1) rfl, hb14.cella (i := 2) rfl, trivial⟩, ?_⟩
    refine (Q3a hs[t]).mono fun e w20 ⟨he, x20'⟩ => ⟨_, he, ?_⟩
    have x20 := x14.trans x20'
    have hb20 := hb14.ext x20' id
    have hd : hs.drop t = hs[t] :: hs.drop (t + 1) := List.drop_eq_getElem_cons ht
    rw [hd] at hf
    simp only [rightF] at hf
    by_cases c1 : rhead hs[t] = true
    · rw [c1, Bool.not_true, cond_false]
      rw [c1, Bool.true_and] at hf
      have hw1 : IntKind.i64.wrap ((t : Int) + 1) = ((t + 1 : Nat) : Int) := by rw [w64 (by omega) (by omega)]; rfl
      cases t with
      | zero =>
        rw [show decide (((0 : Nat) : Int) > 0) = false from rfl, cond_false]
        exact ⟨k, by omega, 1, by rw [hw1], by omega, by rw [← hf]; simp [prevOf, ht], hx.trans x20⟩
      | succ t =>
        rw [show decide (((t + 1 : Nat) : Int) > 0) = true by simp <;> omega, cond_true]
        have htl : t < hs.length := by omega
        have hgp : hs[t]? = some hs[t] := List.getElem?_eq_getElem htl
        have hw2 : IntKind.i64.wrap (((t + 1 : Nat) : Int) - 1) = (t : Int) := by rw [w64 (by omega) (by omega)] <;> omega
        rw [hw2]
        refine ⟨_, hb20.cella (i := 0) rfl, by omega, by omega, _, by rw [Int.toNat_natCast]; exact hs_cell (hr1.no x20) hgp (j := 0) rfl, ?_⟩
        simp only [prevOf, hgp, Option.map_some] at hf
        by_cases c2 : hs[t + 1].1 ≤ hs[t].1
        · rw [decide_eq_true c2, cond_true]
          rw [decide_eq_false (by omega), Bool.false_and] at hf
          exact ⟨by rw [← hf], hx.trans x20⟩
        · rw [decide_eq_false c2, cond_false]
          rw [decide_eq_true (by omega), Bool.true_and] at hf
          exact ⟨k, by omega, t + 2, by rw [hw1], by omega, by rw [← hf]; simp [prevOf, ht], hx.trans x20⟩
    · have c1' : rhead hs[t] = false := by simpa using c1
      rw [c1', Bool.not_false, cond_true]
      rw [c1', Bool.false_and, Bool.false_and] at hf
      exact ⟨by rw [← hf], hx.trans x20⟩

theorem Q50 (hs : List Hd) (h : rightV hs = true) {i j : Nat} {p q : Hd} (hij : i < j) (hi : hs[i]? = some p) (hj : hs[j]? = some q) : p.1 < q.1 := by
  have := (Q3E h).2
  obtain ⟨hi1, rfl⟩ := List.getElem?_eq_some_iff.1 hi
  obtain ⟨hj1, rfl⟩ := List.getElem?_eq_some_iff.1 hj
  have h2 := List.pairwise_iff_getElem.1 this i j (by simpa using hi1) (by simpa using hj1) hij
  simpa using h2
end
theorem infHead : (Try.prog.info? 66).map (fun i => (i.zero, i.size, i.bytes)) = some (some (.agg #[.int .i64 0, .int .i64 0, .int .u64 0]), 3, 24) := by kernel_rfl

theorem Q5v {w w' : World} {m : Nat → Prop} {base e size n : Nat} {v : Value} {xs : List Value} (h : w.ownsRow base e size v n xs) (k : Ext m w w') (hm : ∀ q, v.ownBlock = some q → ¬ m q) : w'.ownsRow base e size v n xs := by
  refine ⟨h.1, ?_⟩
  rcases h.2 with h2 | ⟨g, cap, cur, hv, hb, hg, hr⟩
  · exact .inl h2
  · exact .inr ⟨g, cap, cur, hv, hb, k.get hg (hm g (by rw [hv]; rfl)), hr⟩
theorem Q3y (w : World) (e size : Nat) : w.ownsRow 0 e size (.slice none 0 0) 0 [] := ⟨by simp, .inl ⟨rfl, rfl⟩⟩

section
variable {w w' : World} {aa ba : Option Addr} {ac bc : Nat} {a b : List Hd}
/-! ### Compare -/
/-! ### a list of heads that grows -/
def Grows (N : Nat) (w : World) (A : Nat) (t : TypeId) (l : List Hd) : Prop :=
  ∃ ra rc, Blk w A t [.slice ra l.length rc] ∧ w.ownsRow 0 66 3 (.slice ra l.length rc) l.length (hsC l) ∧ (∀ ad, ra = some ad → N ≤ ad.block ∧ ad.block ≠ A) ∧ N ≤ A
/-! ### Missing -/
end
section
variable {w w' : World} {aa ba : Option Addr} {ac bc : Nat} {a b : List Hd}
/-! ### Conflict -/
/-! ### Merge -/
/-! ### the chapter's example -/
end
def fitH (h : Hd) : Prop := (Lit.int .i64 h.1).wf = true ∧ (Lit.int .i64 h.2.1).wf = true ∧ (Lit.int .u64 h.2.2).wf = true
def HeadsQ (W : World) (cs : List Value) : Prop := ∃ (a : Option Addr) (c : Nat) (hs : List Hd), cs = [.slice a hs.length c] ∧ hs.length ≤ c ∧ c ≤ maxLen ∧ RowAt W a (hsC hs) ∧ ∀ h ∈ hs, fitH h
def HeadQ (W : World) (cs : List Value) : Prop := ∃ h : Hd, cs = hdC h ∧ fitH h
theorem Q4C : Opens Try.prog 66 HeadQ :=
  (Q1x (size := 3) Try.underlying66 (by kernel_rfl)).mono fun W cs ⟨hl, h⟩ => by
    match cs, hl with
    | [c0, c1, c2], _ =>
      obtain ⟨n0, e0, f0⟩ := h 0 _ rfl _ (Q16 Try.underlying3)
      obtain ⟨n1, e1, f1⟩ := h 1 _ rfl _ (Q16 Try.underlying3)
      obtain ⟨n2, e2, f2⟩ := h 2 _ rfl _ (Q16 Try.underlying22)
      have ci : Try.prog.cellsOf 3 = 1 := by kernel_rfl
      have cu : Try.prog.cellsOf 22 = 1 := by kernel_rfl
      change List.take (Try.prog.cellsOf 3) (List.drop 0 [c0, c1, c2]) = _ at e0
      change List.take (Try.prog.cellsOf 3) (List.drop 1 [c0, c1, c2]) = _ at e1
      change List.take (Try.prog.cellsOf 22) (List.drop 2 [c0, c1, c2]) = _ at e2
      rw [ci] at e0 e1
      rw [cu] at e2
      simp only [List.drop_zero, List.drop_succ_cons, List.take_succ_cons, List.take_zero, List.cons.injEq, and_true] at e0 e1 e2
      subst e0; subst e1; subst e2
      exact ⟨(n0, n1, n2), rfl, f0, f1, f2⟩
theorem Q3Z : Opens Try.prog 28 HeadsQ :=
  (Q2Z (size := 3) Try.underlying28 (by kernel_rfl) Q4C).mono fun W cs ⟨a, l, c, rows, h1, h2, h3, h4, h5, h6⟩ => by
    obtain ⟨xs, h7, h8⟩ := rows_of (rows := rows) hdC fitH fun r hr => by
      obtain ⟨h, q1, q2⟩ := (h6 r hr).2
      exact ⟨h, q1, q2⟩
    subst h7
    rw [List.length_map] at h4
    subst h4
    exact ⟨a, c, xs, h1, h2, h3, by rw [hsC, List.flatMap_def]; exact h5, h8⟩
open W (OwnB Rd GivesW numR countR doneR)
def vBytes.M (ba : Option Addr) (av bi : Nat) (R : RW) (w : World) : Prop :=
 Calls Try.prog 38 #[.slice ba av bi] w fun be b8 => ∃ (a8 : Bool), be = .returned (.bool a8) ∧
 bif !a8 then (
 R (.tuple #[.slice none 0 0, .int .i64 1]) b8) else (
 Calls Try.prog 26 #[.slice none 0 0, .int .u64 (IntKind.u64.wrap (av : Int))] b8 fun bd bg => ∃ (al : Option Addr) (ap an : Nat), bd = .returned (.slice al ap an) ∧
 ∃ (I0 : Nat → List Value → World → Prop) (bh : Nat), I0 bh [.slice al ap an, .int .i64 0] bg ∧ ∀ (bc : Nat) (a0 : World) (ax : Option Addr) (b1 b5 : Nat) (t9 : Int), I0 bc [.slice ax b1 b5, .int .i64 t9] a0 →
 bif decide (t9 < (av : Int)) then (
 ba.elim False fun bf =>
 0 ≤ (t9 : Int) ∧ (t9 : Int) < (av : Int) ∧
 ∃ (a1 ae ai : Int), cellsAt a0 (bf.add (Int.toNat t9 * 3)) [.int .i64 a1, .int .i64 ae, .int .u64 ai] 0 ∧
 thenW (a0.alloc (.cells #[.int .i64 0, .int .i64 0, .int .u64 0] 66)) fun aq =>
 Q01 aq ((blk a0.heap.size).add 0) ∧
 thenW (aq.setCell ((blk a0.heap.size).add 0) (.int .i64 a1)) fun au =>
 Q01 au ((blk a0.heap.size).add 1) ∧
 thenW (au.setCell ((blk a0.heap.size).add 1) (.int .i64 ae)) fun ar =>
 Q01 ar ((blk a0.heap.size).add 2) ∧
 thenW (ar.setCell ((blk a0.heap.size).add 2) (.int .u64 ai)) fun ak =>
 ∃ (a2 : Int), ak.cell? ((blk a0.heap.size).add 0) = some (.int .i64 a2) ∧
 ∃ (am : Int), ak.cell? ((blk a0.heap.size).add 1) = some (.int .i64 am) ∧
 ∃ (ao : Int), ak.cell? ((blk a0.heap.size).add 2) = some (.int .u64 ao) ∧
 ∃ (I2 : Nat → List Value → World → Prop) (bj : Nat), I2 bj [.slice ax b1 b5, .int .i64 0] ak ∧ ∀ (aw : Nat) (a6 : World) (af : Option Addr) (ab a5 : Nat) (aj : Int), I2 aw [.slice af ab a5, .int .i64 aj] a6 →
 bif decide (aj < 3) then (
 0 ≤ (aj : Int) ∧ (aj : Int) < (3 : Int) ∧
 ((aj : Int) = 0 → 
 Calls Try.prog 26 #[.slice af ab a5, .int .u64 (IntKind.u64.wrap a2)] a6 fun b4 b3 => ∃ (ac : Option Addr) (ah a9 : Nat), b4 = .returned (.slice ac ah a9) ∧
 ∃ b9, b9 < aw ∧ I2 b9 [.slice ac ah a9, .int .i64 (IntKind.i64.wrap (aj + 1))] b3) ∧
 ((aj : Int) = 1 → 
 Calls Try.prog 26 #[.slice af ab a5, .int .u64 (IntKind.u64.wrap am)] a6 fun b2 b0 => ∃ (a4 : Option Addr) (a3 ag : Nat), b2 = .returned (.slice a4 a3 ag) ∧
 ∃ bb, bb < aw ∧ I2 bb [.slice a4 a3 ag, .int .i64 (IntKind.i64.wrap (aj + 1))] b0) ∧
 ((aj : Int) = 2 → 
 Calls Try.prog 26 #[.slice af ab a5, .int .u64 ao] a6 fun ay az => ∃ (ad : Option Addr) (a7 aa : Nat), ay = .returned (.slice ad a7 aa) ∧
 ∃ b6, b6 < aw ∧ I2 b6 [.slice ad a7 aa, .int .i64 (IntKind.i64.wrap (aj + 1))] az) ∧ True) else (
 ∃ b7, b7 < bc ∧ I0 b7 [.slice af ab a5, .int .i64 (IntKind.i64.wrap (t9 + 1))] a6)) else (
 R (.tuple #[.slice ax b1 b5, .int .i64 0]) a0))

theorem vBytes.ok (a1 : Option Addr) (a0 a2 : Nat) {R : RW} {w : World} (h : vBytes.M a1 a0 a2 R w) : Calls Try.prog 28 #[.slice a1 a0 a2] w fun e w' => ∃ v, e = .returned v ∧ R v w' :=
  Q08 follows (H := [(0, [16, 17], [(4, (.one .slice)), (18, (.one (.int .i64)))]), (2, [16, 17, 18, 30], [(4, (.one .slice)), (31, (.one (.int .i64)))])]) (args := [.slice a1 a0 a2]) (cast (by kernel_rfl) h)

def vRead.M (b7 : Option Addr) (b8 b3 : Nat) (R : RW) (w : World) : Prop :=
 Calls Try.prog 33 #[.slice b7 b8 b3] w fun b4 b2 => ∃ (a2 : Option Addr), b4 = .returned (.pointer a2) ∧
 Calls Try.prog 54 #[.pointer a2, .int .i64 8] b2 fun b1 b5 => ∃ (a9 : Int), b1 = .returned (.int .i64 a9) ∧
 ∃ (I0 : Nat → List Value → World → Prop) (b6 : Nat), I0 b6 [.slice none 0 0, .int .i64 0] b5 ∧ ∀ (b0 : Nat) (a0 : World) (al : Option Addr) (an am : Nat) (t9 : Int), I0 b0 [.slice al an am, .int .i64 t9] a0 →
 bif decide (t9 < a9) then (
 thenW (a0.alloc (.cells #[.int .i64 0, .int .i64 0, .int .u64 0] 66)) fun ar =>
 Calls Try.prog 54 #[.pointer a2, .int .i64 7] ar fun ay aj => ∃ (a5 : Int), ay = .returned (.int .i64 a5) ∧
 Q01 aj (((blk a0.heap.size).add 0).add 0) ∧
 thenW (aj.setCell (((blk a0.heap.size).add 0).add 0) (.int .i64 a5)) fun ao =>
 Calls Try.prog 54 #[.pointer a2, .int .i64 200] ao fun aq af => ∃ (a6 : Int), aq = .returned (.int .i64 a6) ∧
 Q01 af (((blk a0.heap.size).add 1).add 0) ∧
 thenW (af.setCell (((blk a0.heap.size).add 1).add 0) (.int .i64 a6)) fun ax =>
 Calls Try.prog 71 #[.pointer a2] ax fun au ae => ∃ (aa : Int), au = .returned (.int .u64 aa) ∧
 Q01 ae (((blk a0.heap.size).add 2).add 0) ∧
 thenW (ae.setCell (((blk a0.heap.size).add 2).add 0) (.int .u64 aa)) fun ab =>
 ∃ (a1 a7 a8 : Int), cellsAt ab (blk a0.heap.size) [.int .i64 a1, .int .i64 a7, .int .u64 a8] 0 ∧
 thenW (ab.alloc (.cells #[.int .i64 a1, .int .i64 a7, .int .u64 a8] 66)) fun aw =>
 ∃ (ai : Option Addr) (ak ac : Nat) (ag : World), (Builtin.append_ #[36, 36] 36 #[.slice al an am, .slice (some (blk ab.heap.size)) 1 1]).run Try.prog aw = .ok (.slice ai ak ac) ag ∧
 ∃ az, az < b0 ∧ I0 az [.slice ai ak ac, .int .i64 (IntKind.i64.wrap (t9 + 1))] ag) else (
 Calls Try.prog 56 #[.pointer a2] a0 fun av ad => ∃ (a3 : Int), av = .returned (.int .i64 a3) ∧
 bif a3 != 0 then (
 R (.tuple #[.slice none 0 0, .int .i64 a3]) ad) else (
 Calls Try.prog 38 #[.slice al an am] ad fun ap ah => ∃ (a4 : Bool), ap = .returned (.bool a4) ∧
 bif !a4 then (
 R (.tuple #[.slice none 0 0, .int .i64 4]) ah) else (
 R (.tuple #[.slice al an am, .int .i64 0]) ah)))

theorem vRead.ok (a0 : Option Addr) (a1 a2 : Nat) {R : RW} {w : World} (h : vRead.M a0 a1 a2 R w) : Calls Try.prog 93 #[.slice a0 a1 a2] w fun e w' => ∃ v, e = .returned v ∧ R v w' :=
  Q08 follows (H := [(0, [4, 10], [(2, (.one .slice)), (11, (.one (.int .i64)))])]) (args := [.slice a0 a1 a2]) (cast (by kernel_rfl) h)

def rSame5.M (ad : Option Addr) (a9 ag : Nat) (ae : Option Addr) (ab ah : Nat) (R : RW) (w : World) : Prop :=
 bif (a9 : Int) != (ab : Int) then (
 R (.bool false) w) else (
 ∃ (I0 : Nat → List Value → World → Prop) (m4 : Nat), I0 m4 [.int .i64 0] w ∧ ∀ (m5 : Nat) (a7 : World) (i3 : Int), I0 m5 [.int .i64 i3] a7 →
 bif decide (i3 < (a9 : Int)) then (
 thenW (a7.drew) fun a6 =>
 ad.elim False fun a8 =>
 0 ≤ (i3 : Int) ∧ (i3 : Int) < (a9 : Int) ∧
 ∃ (a1 a5 a2 : Int), cellsAt a6 (a8.add (Int.toNat i3 * 3)) [.int .i64 a1, .int .i64 a5, .int .u64 a2] 0 ∧
 ae.elim False fun af =>
 0 ≤ (i3 : Int) ∧ (i3 : Int) < (ab : Int) ∧
 ∃ (a0 a3 a4 : Int), cellsAt a6 (af.add (Int.toNat i3 * 3)) [.int .i64 a0, .int .i64 a3, .int .u64 a4] 0 ∧
 ∃ (ac : Bool), (binOp .neq 66 (.agg #[.int .i64 a1, .int .i64 a5, .int .u64 a2]) (.agg #[.int .i64 a0, .int .i64 a3, .int .u64 a4])).run Try.prog a6 = .ok (.bool ac) a6 ∧
 bif ac then (
 R (.bool false) a6) else (
 ∃ aa, aa < m5 ∧ I0 aa [.int .i64 (IntKind.i64.wrap (i3 + 1))] a6)) else (
 R (.bool true) a7))

theorem rSame5.ok (a0 : Option Addr) (a4 a5 : Nat) (a2 : Option Addr) (a1 a3 : Nat) {R : RW} {w : World} (h : rSame5.M a0 a4 a5 a2 a1 a3 R w) : Calls Try.prog 36 #[.slice a0 a4 a5, .slice a2 a1 a3] w fun e w' => ∃ v, e = .returned v ∧ R v w' :=
  Q08 follows (H := [(0, [0, 1], [(5, (.one (.int .i64)))])]) (args := [.slice a0 a4 a5, .slice a2 a1 a3]) (cast (by kernel_rfl) h)

def wSame.M (a7 : Option Addr) (a2 aa : Nat) (a9 : Option Addr) (a4 ab : Nat) (R : RW) (w : World) : Prop :=
 bif (a2 : Int) != (a4 : Int) then (
 R (.bool false) w) else (
 ∃ (I0 : Nat → List Value → World → Prop) (m4 : Nat), I0 m4 [.int .i64 0] w ∧ ∀ (m5 : Nat) (a1 : World) (i3 : Int), I0 m5 [.int .i64 i3] a1 →
 bif decide (i3 < (a2 : Int)) then (
 thenW (a1.drew) fun a0 =>
 a7.elim False fun a8 =>
 0 ≤ (i3 : Int) ∧ (i3 : Int) < (a2 : Int) ∧
 ∃ (x9 : Int), a0.cell? (a8.add (Int.toNat i3 * 1)) = some (.int .u8 x9) ∧
 a9.elim False fun a6 =>
 0 ≤ (i3 : Int) ∧ (i3 : Int) < (a4 : Int) ∧
 ∃ (a3 : Int), a0.cell? (a6.add (Int.toNat i3 * 1)) = some (.int .u8 a3) ∧
 bif x9 != a3 then (
 R (.bool false) a0) else (
 ∃ a5, a5 < m5 ∧ I0 a5 [.int .i64 (IntKind.i64.wrap (i3 + 1))] a0)) else (
 R (.bool true) a1))

theorem wSame.eq (a1a : Option Addr) (a1n a1c : Nat) (b2a : Option Addr) (b2n b2c : Nat) (R : RW) (w : World) : mfunc Try.prog [(0, [0, 1], [(5, (.one (.int .i64)))])] 11 [.slice a1a a1n a1c, .slice b2a b2n b2c] R w = wSame.M a1a a1n a1c b2a b2n b2c R w := by kernel_rfl
theorem wSame.ok (a0 : Option Addr) (a4 a5 : Nat) (a2 : Option Addr) (a1 a3 : Nat) {R : RW} {w : World} (h : wSame.M a0 a4 a5 a2 a1 a3 R w) : Calls Try.prog 11 #[.slice a0 a4 a5, .slice a2 a1 a3] w fun e w' => ∃ v, e = .returned v ∧ R v w' :=
  Q08 follows (H := [(0, [0, 1], [(5, (.one (.int .i64)))])]) (args := [.slice a0 a4 a5, .slice a2 a1 a3]) (by rw [wSame.eq]; exact h)

def hdL (h : Hd) : List UInt8 := numL h.1.toNat ++ (numL h.2.1.toNat ++ numL h.2.2.toNat)
def vecL (hs : List Hd) : List UInt8 := numL hs.length ++ hs.flatMap hdL
theorem numL_le (n : Nat) : (numL n).length ≤ 10 := numF_le 10 n
theorem hdL_le (h : Hd) : (hdL h).length ≤ 30 := by
  have := numL_le h.1.toNat; have := numL_le h.2.1.toNat; have := numL_le h.2.2.toNat
  simp only [hdL, List.length_append]; omega
theorem hdsL_le : ∀ hs : List Hd, (hs.flatMap hdL).length ≤ 30 * hs.length
  | [] => Nat.le_refl _
  | h :: r => by
    have := hdsL_le r; have := hdL_le h
    simp only [List.flatMap_cons, List.length_append, List.length_cons]; omega
def natH (h : Hd) : Prop := 0 ≤ h.1 ∧ h.1 < 18446744073709551616 ∧ 0 ≤ h.2.1 ∧ h.2.1 < 18446744073709551616 ∧ 0 ≤ h.2.2 ∧ h.2.2 < 18446744073709551616
theorem Q58 {h : Hd} (hr : rhead h = true) (hf : 0 ≤ h.2.2 ∧ h.2.2 < 18446744073709551616) : natH h := by
  simp only [rhead, Bool.and_eq_true, decide_eq_true_eq] at hr
  obtain ⟨a, b, c, d, _⟩ := hr
  exact ⟨a, by omega, by omega, by omega, hf.1, hf.2⟩
theorem Q1s : ∀ {hs : List Hd} {p : Option Int}, rightF p hs = true → ∀ h ∈ hs, rhead h = true
  | [], _, _, h, hh => by simp at hh
  | a :: r, p, hr, h, hh => by
    simp only [rightF, Bool.and_eq_true] at hr
    rcases List.mem_cons.1 hh with rfl | hh
    · exact hr.1.1
    · exact Q1s hr.2 h hh
theorem OwnB.mono {N M : Nat} {w : World} {a : Option Addr} {c : Nat} {bs : List UInt8} (h : OwnB N w a c bs) (hM : M ≤ N) : OwnB M w a c bs := ⟨h.own, fun ad ha => ⟨Nat.le_trans hM (h.fr ad ha).1, (h.fr ad ha).2⟩⟩

section
variable {w w' : World} {a : Option Addr} {c : Nat} {hs : List Hd}
theorem Q40 (hr : RowAt w a (hsC hs)) (hl : hs.length ≤ 1000) (hn : rightV hs = true → ∀ h ∈ hs, natH h) :
    Calls Try.prog 28 #[.slice a hs.length c] w (fun e w' => Ext no w w' ∧ ((rightV hs = false ∧ e = .returned (.tuple #[.slice none 0 0, .int .i64 1])) ∨ (rightV hs = true ∧ ∃ a' c', e = .returned (.tuple #[.slice a' (vecL hs).length c', .int .i64 0]) ∧ OwnB w.heap.size w' a' c' (vecL hs)))) := by
  refine (vBytes.ok _ _ _ (R := fun v w' => Ext no w w' ∧ ((rightV hs = false ∧ v = .tuple #[.slice none 0 0, .int .i64 1]) ∨ (rightV hs = true ∧ ∃ a' c', v = .tuple #[.slice a' (vecL hs).length c', .int .i64 0] ∧ OwnB w.heap.size w' a' c' (vecL hs)))) ?_).mono fun e w' ⟨v, he, hx, hv⟩ => ⟨hx, hv.imp (fun ⟨h1, h2⟩ => ⟨h1, by rw [he, h2]⟩) (fun ⟨h1, a', c', h2, h3⟩ => ⟨h1, a', c', by rw [he, h2], h3⟩)⟩
  unfold vBytes.M
  refine (Q1Y hr (by omega)).mono fun e w4 ⟨he, x4⟩ => ⟨_, he, ?_⟩
  by_cases hright : rightV hs = true
  · rw [hright, Bool.not_true, cond_false]
    have hnat := hn hright
    rw [wu64 (n := (hs.length : Int)) (by omega) (by omega)]
    refine (W.Num_spec (bs := []) (n := hs.length) (RowAt.nil _ none) (by decide) (by omega)).mono fun e w7 ⟨a7, c7, he, ho7, x7'⟩ => ⟨a7, _, c7, he, ?_⟩
    rw [List.nil_append] at ho7 ⊢
    have x7 := x4.trans x7'
    refine ⟨fun k vs w1 => ∃ (t : Nat) (a1 : Option Addr) (c1 : Nat), vs = [.slice a1 (numL hs.length ++ (hs.take t).flatMap hdL).length c1, .int .i64 t] ∧ k + t = hs.length ∧ OwnB w.heap.size w1 a1 c1 (numL hs.length ++ (hs.take t).flatMap hdL) ∧ Ext no w w1, hs.length,
      ⟨0, a7, c7, by simp, rfl, by simpa using OwnB.mono ho7 x4.size, x7⟩, ?_⟩
    rintro k w12 b0 n0 c0 i ⟨t, a1, c1, hvs, hk, ho, hx⟩
    simp only [List.cons.injEq, Value.int.injEq, Value.slice.injEq, true_and, and_true] at hvs
    obtain ⟨⟨rfl, rfl, rfl⟩, rfl⟩ := hvs
    cases k with
    | zero =>
      obtain rfl : t = hs.length := by omega
      rw [show decide ((hs.length : Int) < (hs.length : Int)) = false by simp, cond_false]
      rw [List.take_length] at ho ⊢
      exact ⟨hx, .inr ⟨rfl, _, _, rfl, ho⟩⟩
    | succ k =>
      have ht : t < hs.length := by omega
      rw [show decide ((t : Int) < (hs.length : Int)) = true by simp; omega, cond_true]
      have hr1 := hr.no hx
      obtain ⟨ad, rfl⟩ := hr1.addr (hsC_ne (by intro e; subst e; simp at ht))
      have hgi : hs[t]? = some hs[t] := List.getElem?_eq_getElem ht
      obtain ⟨m1, m2, m3, m4, m5, m6⟩ := hnat hs[t] (List.getElem_mem ht)
      refine ⟨by omega, by omega, _, _, _, by rw [Int.toNat_natCast]; exact hs_at hr1 hgi, Q02 fun w17 h17 => ?_⟩
      have hb17 : Blk w17 w12.heap.size 66 [.int .i64 0, .int .i64 0, .int .u64 0] := by subst h17; exact Blk.new _ _ _
      have x17 : Ext no w12 w17 := by subst h17; exact (Ext.refl _ _).alloc _
      refine ⟨hb17.cana (i := 0) rfl, Q02 fun w18 h18 => ?_⟩
      have hb18 := hb17.seta 0 (.int .i64 hs[t].1)
      rw [← h18] at hb18
      have x18 : Ext no w12 w18 := by subst h18; exact x17.setCell (.inr (by rw [add_zero]; exact Nat.le_refl _)) _
      refine ⟨hb18.cana (i := 1) rfl, Q02 fun w19 h19 => ?_⟩
      have hb19 := hb18.seta 1 (.int .i64 hs[t].2.1)
      rw [← h19] at hb19
      have x19 : Ext no w12 w19 := by subst h19; exact x18.setCell (.inr (by rw [add_blk]; exact Nat.le_refl _)) _
      refine ⟨hb19.cana (i := 2) rfl, Q02 fun w20 h20 => ?_⟩
      have hb20 := hb19.seta 2 (.int .u64 hs[t].2.2)
      rw [← h20] at hb20
      have x20 : Ext no w12 w20 := by subst h20; exact x19.setCell (.inr (by rw [add_blk]; exact Nat.le_refl _)) _
      refine ⟨_, hb20.cella (i := 0) rfl, _, hb20.cella (i := 1) rfl, _, hb20.cella (i := 2) rfl, ?_⟩
      -- the three numbers
      have hlen : (numL hs.length ++ (hs.take t).flatMap hdL).length ≤ 10 + 30 * 1000 := by
        have h1 := numL_le hs.length
        have h2 := hdsL_le (hs.take t)
        rw [List.length_take] at h2
        rw [List.length_append]; omega
      have n1 := numL_le hs[t].1.toNat; have n2 := numL_le hs[t].2.1.toNat; have n3 := numL_le hs[t].2.2.toNat
      rw [wu64 m1 m2, wu64 m3 m4]
      generalize hbase : numL hs.length ++ (hs.take t).flatMap hdL = base at *
      have part : ∀ j : Nat, j ≤ 3 → ((([numL hs[t].1.toNat, numL hs[t].2.1.toNat, numL hs[t].2.2.toNat] : List (List UInt8)).take j).flatten).length ≤ 30 := fun j hj => by
        match j, hj with
        | 0, _ => simp
        | 1, _ => simp; omega
        | 2, _ => simp; omega
        | 3, _ => simp; omega
      refine ⟨fun k2 vs w1 => ∃ (j : Nat) (a2 : Option Addr) (c2 : Nat), vs = [.slice a2 (base ++ (([numL hs[t].1.toNat, numL hs[t].2.1.toNat, numL hs[t].2.2.toNat] : List (List UInt8)).take j).flatten).length c2, .int .i64 j] ∧ k2 + j = 3 ∧ OwnB w.heap.size w1 a2 c2 (base ++ (([numL hs[t].1.toNat, numL hs[t].2.1.toNat, numL hs[t].2.2.toNat] : List (List UInt8)).take j).flatten) ∧ Ext no w w1, 3,
        ⟨0, b0, c0, by simp, rfl, by simpa using ho.no x20, hx.trans x20⟩, ?_⟩
      rintro k2 w28 b2 l2 c2 i2 ⟨j, a2', c2', hvs, hk2, ho2, hx2⟩
      simp only [List.cons.injEq, Value.int.injEq, Value.slice.injEq, true_and, and_true] at hvs
      obtain ⟨⟨rfl, rfl, rfl⟩, rfl⟩ := hvs
      cases k2 with
      | zero =>
        obtain rfl : j = 3 := by omega
        rw [show decide (((3 : Nat) : Int) < 3) = false from rfl, cond_false]
        have hnx : base ++ (([numL hs[t].1.toNat, numL hs[t].2.1.toNat, numL hs[t].2.2.toNat] : List (List UInt8)).take 3).flatten = numL hs.length ++ (hs.take (t + 1)).flatMap hdL := by
          rw [← hbase, List.take_add_one (l := hs) (i := t), hgi, Option.toList_some, List.flatMap_append]
          show (numL hs.length ++ (hs.take t).flatMap hdL) ++ (numL hs[t].1.toNat ++ (numL hs[t].2.1.toNat ++ (numL hs[t].2.2.toNat ++ []))) = numL hs.length ++ ((hs.take t).flatMap hdL ++ (hdL hs[t] ++ []))
          simp only [hdL, List.append_nil, List.append_assoc]
        rw [hnx] at ho2 ⊢
        exact ⟨k, by omega, t + 1, _, _, by rw [w64 (by omega) (by omega)]; rfl, by omega, ho2, hx2⟩
      | succ k2 =>
        have hj : j < 3 := by omega
        rw [show decide ((j : Int) < 3) = true by simp; omega, cond_true]
        refine ⟨by omega, by omega, ?_⟩
        have hp := part j (by omega)
        -- one number more
        have step : ∀ (n : Nat), n < 18446744073709551616 → (([numL hs[t].1.toNat, numL hs[t].2.1.toNat, numL hs[t].2.2.toNat] : List (List UInt8))[j]? = some (numL n)) → ∀ x : Int, x = (n : Int) →
            Calls Try.prog 26 #[.slice b2 (base ++ (([numL hs[t].1.toNat, numL hs[t].2.1.toNat, numL hs[t].2.2.toNat] : List (List UInt8)).take j).flatten).length c2, .int .u64 x] w28 (fun ee31 ww32 => ∃ (num30a : Option Addr) (num30n num30c : Nat), ee31 = .returned (.slice num30a num30n num30c) ∧
              ∃ m33, m33 < k2 + 1 ∧ ∃ (j' : Nat) (a2 : Option Addr) (c2 : Nat), [Value.slice num30a num30n num30c, .int .i64 (IntKind.i64.wrap ((j : Int) + 1))] = [.slice a2 (base ++ (([numL hs[t].1.toNat, numL hs[t].2.1.toNat, numL hs[t].2.2.toNat] : List (List UInt8)).take j').flatten).length c2, .int .i64 j'] ∧ m33 + j' = 3 ∧ OwnB w.heap.size ww32 a2 c2 (base ++ (([numL hs[t].1.toNat, numL hs[t].2.1.toNat, numL hs[t].2.2.toNat] : List (List UInt8)).take j').flatten) ∧ Ext no w ww32) := fun n hn64 hj2 x hx' => by
          subst hx'
          refine (W.Num_spec (c := c2) ho2.row (by rw [List.length_append]; omega) hn64).mono fun e w32 ⟨a3, c3, he, ho3, x3⟩ => ⟨a3, _, c3, he, k2, by omega, j + 1, a3, c3, ?_, by omega, ?_, hx2.trans x3⟩
          · rw [w64 (by omega) (by omega), List.take_add_one, hj2]
            simp [List.append_assoc]
          · rw [List.take_add_one, hj2]
            have := OwnB.mono ho3 hx2.size
            simpa [List.append_assoc] using this
        refine ⟨fun h => ?_, fun h => ?_, fun h => ?_, trivial⟩
        · obtain rfl : j = 0 := by omega
          exact step hs[t].1.toNat (by omega) rfl hs[t].1 (by omega)
        · obtain rfl : j = 1 := by omega
          exact step hs[t].2.1.toNat (by omega) rfl hs[t].2.1 (by omega)
        · obtain rfl : j = 2 := by omega
          exact step hs[t].2.2.toNat (by omega) rfl hs[t].2.2 (by omega)
  · rw [show rightV hs = false by simpa using hright, Bool.not_false, cond_true]
    exact ⟨x4, .inl ⟨rfl, rfl⟩⟩

/-! ### reading -/
def readF : Nat → List Hd → List UInt8 × Int → List Hd × (List UInt8 × Int)
  | 0, hs, s => (hs, s)
  | n + 1, hs, s =>
    readF n (hs ++ [(((countR 7 s).1 : Int), (((countR 200 (countR 7 s).2).1 : Int), ((numR (countR 200 (countR 7 s).2).2).1 : Int)))]) (numR (countR 200 (countR 7 s).2).2).2
def readAll (b : List UInt8) : List Hd × (List UInt8 × Int) := readF (countR 8 (b, 0)).1 [] (countR 8 (b, 0)).2
def readV (b : List UInt8) : List Hd × Int :=
  if doneR (readAll b).2 ≠ 0 then ([], doneR (readAll b).2) else if rightV (readAll b).1 then ((readAll b).1, 0) else ([], 4)

structure OwnH (N : Nat) (w : World) (a : Option Addr) (c : Nat) (hs : List Hd) : Prop where
  own : w.ownsRow 0 66 3 (.slice a hs.length c) hs.length (hsC hs)
  fr : ∀ ad, a = some ad → N ≤ ad.block ∧ ad.block < w.heap.size
theorem OwnH.row {N : Nat} (h : OwnH N w a c hs) : RowAt w a (hsC hs) := by
  obtain ⟨_, _, hv, hr⟩ := RowAt.of_owns h.own
  cases hv; exact hr
theorem OwnH.ext {N : Nat} {m : Nat → Prop} (h : OwnH N w a c hs) (k : Ext m w w') (hm : ∀ ad, a = some ad → ¬ m ad.block) : OwnH N w' a c hs :=
  ⟨Q5v h.own k fun q hq => by
    cases a with
    | none => simp [Value.ownBlock] at hq
    | some ad => simp only [Value.ownBlock, Option.some.injEq] at hq; subst hq; exact hm ad rfl, fun ad ha => ⟨(h.fr ad ha).1, Nat.lt_of_lt_of_le (h.fr ad ha).2 k.size⟩⟩
theorem OwnH.push {N : Nat} {ty : TypeId} (hty : Try.prog.underlying ty = some (.slice 66)) (h : OwnH N w a c hs) (hN : N ≤ w.heap.size) (hl : hs.length ≤ 1000000) {xa : Option Addr} {x : Hd} (hx : RowAt w xa (hdC x)) :
    ∃ a' c' w', (Builtin.append_ #[ty, ty] ty #[.slice a hs.length c, .slice xa 1 1]).run Try.prog w = .ok (.slice a' (hs.length + 1) c') w' ∧ OwnH N w' a' c' (hs ++ [x]) ∧ Ext (fun b => N ≤ b ∧ ∀ ad, a = some ad → b = ad.block ∨ w.heap.size ≤ b) w w' ∧ (∀ ad, a' = some ad → (∃ b, a = some b ∧ ad.block = b.block) ∨ w.heap.size ≤ ad.block) := by
  obtain ⟨i, hi, hz, hs', hby⟩ := info_of infHead
  obtain ⟨a', c', w2, hr, ho, hg, hb⟩ := Q1q (ty := ty) hty hi hz hs' hby rfl (by decide) h.own (xa := xa) (m := 1) (c := 1) rfl hx (fun u hu => by
    simp only [hdC, List.mem_cons, List.not_mem_nil, or_false] at hu
    rcases hu with rfl | rfl | rfl <;> rfl) (by omega) (by omega)
  have hrow : ∀ q, (Value.slice a hs.length c).ownBlock = some q → N ≤ q ∧ ∀ ad, a = some ad → q = ad.block := fun q hq => by
    cases a with
    | none => simp [Value.ownBlock] at hq
    | some ad => simp only [Value.ownBlock, Option.some.injEq] at hq; subst hq; exact ⟨(h.fr ad rfl).1, fun ad' ha' => by cases ha'; rfl⟩
  refine ⟨a', c', w2, hr, ⟨?_, fun ad ha => ⟨?_, (Q1j ho).2 ad ha⟩⟩, Ext.of_grown hg fun q hq => .inl ⟨(hrow q hq).1, fun ad ha => .inl ((hrow q hq).2 ad ha)⟩, fun ad ha => ?_⟩
  · rw [List.length_append, show hsC (hs ++ [x]) = hsC hs ++ hdC x by simp [hsC]]; exact ho
  · subst ha
    rcases hb with hq | hq
    · exact (hrow _ hq.symm).1
    · simp only [Value.ownBlock, Option.some.injEq] at hq; omega
  · subst ha
    rcases hb with hq | hq
    · cases a with
      | none => simp [Value.ownBlock] at hq
      | some b => exact .inl ⟨b, rfl, by simpa [Value.ownBlock] using hq⟩
    · simp only [Value.ownBlock, Option.some.injEq] at hq; exact .inr (by omega)
end
open W (OwnB Rd GivesW numR countR doneR)
section
variable {w w' : World} {a : Option Addr} {c : Nat} {hs : List Hd}
theorem OwnH.mono {N M : Nat} (h : OwnH N w a c hs) (hM : M ≤ N) : OwnH M w a c hs := ⟨h.own, fun ad ha => ⟨Nat.le_trans hM (h.fr ad ha).1, (h.fr ad ha).2⟩⟩
theorem Q2h (m : Int) (s : List UInt8 × Int) (hm : 0 ≤ m) : ((countR m s).1 : Int) ≤ m := by
  unfold countR
  split
  · split
    · exact hm
    · rename_i h; exact Decidable.byContradiction fun e => h (.inr (by omega))
  · exact hm

theorem Q4t {b : List UInt8} (hr : RowAt w a (bytesV b)) (hc : b.length ≤ c) (hl : b.length < 1000000) :
    Calls Try.prog 93 #[.slice a b.length c] w (fun e w' => ∃ ra rc, e = .returned (.tuple #[.slice ra (readV b).1.length rc, .int .i64 (readV b).2]) ∧ OwnH w.heap.size w' ra rc (readV b).1 ∧ Ext no w w') := by
  refine (vRead.ok _ _ _ (R := fun v w' => ∃ ra rc, v = .tuple #[.slice ra (readV b).1.length rc, .int .i64 (readV b).2] ∧ OwnH w.heap.size w' ra rc (readV b).1 ∧ Ext no w w') ?_).mono fun e w' ⟨v, he, ra, rc, hv, hw⟩ => ⟨ra, rc, by rw [he, hv], hw⟩
  unfold vRead.M
  refine (W.Read_spec hr hc).mono fun e w4 ⟨p, he, hR4, hp, x4⟩ => ⟨_, he, ?_⟩
  have pnew : ∀ {w1 w2 : World}, Ext no w w1 → Ext (fun b => b = p) w1 w2 → Ext no w w2 := fun h k => h.then k fun q hq => .inr (by omega)
  refine (W.Count_spec hR4 hl (m := 8) (by decide)).mono fun e w7 ⟨he, hR7, x7'⟩ => ⟨_, he, ?_⟩
  have x7 := pnew x4 x7'
  have hn8 := Q2h 8 (b, 0) (by decide)
  have hcl := W.countR_len 8 (b, 0)
  have nilH : ∀ N w1, OwnH N w1 none 0 [] := fun N w1 => ⟨Q3y _ _ _, fun ad ha => by cases ha⟩
  refine ⟨fun k vs w1 => ∃ (t : Nat) (va : Option Addr) (vc : Nat) (l : List Hd) (s : List UInt8 × Int), vs = [.slice va l.length vc, .int .i64 t] ∧ k + t = (countR 8 (b, 0)).1 ∧ l.length = t ∧ Rd w1 p s.1 s.2 ∧ s.1.length ≤ b.length ∧ OwnH (p + 1) w1 va vc l ∧ (∀ ad, va = some ad → ad.block ≠ p) ∧ readF k l s = readAll b ∧ Ext no w w1, (countR 8 (b, 0)).1,
    ⟨0, none, 0, [], (countR 8 (b, 0)).2, rfl, rfl, rfl, hR7, hcl, nilH _ _, (fun ad ha => by cases ha), rfl, x7⟩, ?_⟩
  rintro k w12 v0 n0 c0 i ⟨t, va, vc, l, s, hvs, hk, hlt2, hR, hsl, hO, hOp, hF, hx⟩
  simp only [List.cons.injEq, Value.int.injEq, Value.slice.injEq, true_and, and_true] at hvs
  obtain ⟨⟨rfl, rfl, rfl⟩, rfl⟩ := hvs
  cases k with
  | zero =>
    rw [show decide ((t : Int) < ((countR 8 (b, 0)).1 : Int)) = false by simp; omega, cond_false]
    simp only [readF] at hF
    refine (W.Done_spec hR).mono fun e w35 ⟨he, hw⟩ => ⟨_, he, ?_⟩
    subst hw
    unfold readV
    rw [← hF]
    by_cases hd : doneR (s.1, s.2) ≠ 0
    · rw [show (doneR (s.1, s.2) != 0) = true by simpa using hd, cond_true, if_pos hd]
      exact ⟨none, 0, rfl, nilH _ _, hx⟩
    · rw [show (doneR (s.1, s.2) != 0) = false by simpa using hd, cond_false, if_neg hd]
      refine (Q1Y hO.row (by have := hn8; omega)).mono fun e w38 ⟨he, x38⟩ => ⟨_, he, ?_⟩
      by_cases hri : rightV l = true
      · rw [hri, Bool.not_true, cond_false, if_pos rfl]
        exact ⟨_, _, rfl, (hO.ext x38 (fun _ _ h => h)).mono (by omega), hx.trans x38⟩
      · rw [show rightV l = false by simpa using hri, Bool.not_false, cond_true, if_neg (by decide)]
        exact ⟨none, 0, rfl, nilH _ _, hx.trans x38⟩
  | succ k =>
    rw [show decide ((t : Int) < ((countR 8 (b, 0)).1 : Int)) = true by simp; omega, cond_true]
    refine Q02 fun w13 h13 => ?_
    have x13' : Ext no w12 w13 := by subst h13; exact (Ext.refl _ _).alloc _
    have hH13 : Blk w13 w12.heap.size 66 (hdC (0, 0, 0)) := by subst h13; exact Blk.new _ _ _
    have x13 := hx.trans x13'
    have hpl0 := W.Rd.lt hR
    have hpH : w12.heap.size ≠ p := by omega
    have hR13 := W.Rd.no hR x13'
    have hO13 := hO.ext x13' (fun _ _ h => h)
    -- three numbers
    refine (W.Count_spec hR13 (Nat.lt_of_le_of_lt hsl hl) (m := 7) (by decide)).mono fun e w16 ⟨he, hR16, x16'⟩ => ⟨_, he, ?_⟩
    have l16 : (countR 7 (s.1, s.2)).2.1.length ≤ s.1.length := W.countR_len 7 (s.1, s.2)
    have x16 := pnew x13 x16'
    have hH16 := hH13.ext x16' hpH
    have hO16 := hO13.ext x16' hOp
    rw [add_zero]
    refine ⟨hH16.cana (i := 0) rfl, Q02 fun w17 h17 => ?_⟩
    have hH17 : Blk w17 w12.heap.size 66 (hdC ((countR 7 (s.1, s.2)).1, 0, 0)) := by subst h17; exact hH16.seta 0 _
    have x17' : Ext (fun b => b = w12.heap.size) w16 w17 := by subst h17; exact (Ext.refl (fun b => b = w12.heap.size) w16).setCell (a := (blk w12.heap.size).add 0) (.inl rfl) _
    have hR17 := W.Rd.up hR16 x17' (fun q hq => by omega)
    have hOH : ∀ ad, v0 = some ad → ¬ ad.block = w12.heap.size := fun ad ha e => by have := (hO.fr ad ha).2; omega
    have hO17 := hO16.ext x17' hOH
    have x17 : Ext no w w17 := x16.then x17' fun q hq => .inr (by have := hx.size; omega)
    refine (W.Count_spec hR17 (Nat.lt_of_le_of_lt (Nat.le_trans l16 hsl) hl) (m := 200) (by decide)).mono fun e w20 ⟨he, hR20, x20'⟩ => ⟨_, he, ?_⟩
    have l20 : (countR 200 (countR 7 (s.1, s.2)).2).2.1.length ≤ (countR 7 (s.1, s.2)).2.1.length := W.countR_len 200 (countR 7 (s.1, s.2)).2
    have x20 := pnew x17 x20'
    have hH20 := hH17.ext x20' hpH
    have hO20 := hO17.ext x20' hOp
    rw [add_zero]
    refine ⟨hH20.cana (i := 1) rfl, Q02 fun w21 h21 => ?_⟩
    have hH21 : Blk w21 w12.heap.size 66 (hdC ((countR 7 (s.1, s.2)).1, (countR 200 (countR 7 (s.1, s.2)).2).1, 0)) := by subst h21; exact hH20.seta 1 _
    have x21' : Ext (fun b => b = w12.heap.size) w20 w21 := by subst h21; exact (Ext.refl (fun b => b = w12.heap.size) w20).setCell (a := (blk w12.heap.size).add 1) (.inl (by rw [add_blk])) _
    have hR21 := W.Rd.up hR20 x21' (fun q hq => by omega)
    have hO21 := hO20.ext x21' hOH
    have x21 : Ext no w w21 := x20.then x21' fun q hq => .inr (by have := hx.size; omega)
    refine (W.RNum_spec hR21 (Nat.lt_of_le_of_lt (Nat.le_trans l20 (Nat.le_trans l16 hsl)) hl)).mono fun e w24 ⟨he, hR24, x24'⟩ => ⟨_, he, ?_⟩
    have l24 : (numR (countR 200 (countR 7 (s.1, s.2)).2).2).2.1.length ≤ (countR 200 (countR 7 (s.1, s.2)).2).2.1.length := W.numR_len (countR 200 (countR 7 (s.1, s.2)).2).2
    have x24 := pnew x21 x24'
    have hH24 := hH21.ext x24' hpH
    have hO24 := hO21.ext x24' hOp
    rw [add_zero]
    refine ⟨hH24.cana (i := 2) rfl, Q02 fun w25 h25 => ?_⟩
    have hH25 : Blk w25 w12.heap.size 66 (hdC ((countR 7 (s.1, s.2)).1, (countR 200 (countR 7 (s.1, s.2)).2).1, (numR (countR 200 (countR 7 (s.1, s.2)).2).2).1)) := by subst h25; exact hH24.seta 2 _
    have x25' : Ext (fun b => b = w12.heap.size) w24 w25 := by subst h25; exact (Ext.refl (fun b => b = w12.heap.size) w24).setCell (a := (blk w12.heap.size).add 2) (.inl (by rw [add_blk])) _
    have hR25 := W.Rd.up hR24 x25' (fun q hq => by omega)
    have hO25 := hO24.ext x25' hOH
    have x25 : Ext no w w25 := x24.then x25' fun q hq => .inr (by have := hx.size; omega)
    refine ⟨_, _, _, ⟨hH25.cella (i := 0) rfl, hH25.cella (i := 1) rfl, hH25.cella (i := 2) rfl, trivial⟩, Q02 fun w29 h29 => ?_⟩
    have x29' : Ext no w25 w29 := by subst h29; exact (Ext.refl _ _).alloc _
    have hb29 : Blk w29 w25.heap.size 66 (hdC ((countR 7 (s.1, s.2)).1, (countR 200 (countR 7 (s.1, s.2)).2).1, (numR (countR 200 (countR 7 (s.1, s.2)).2).2).1)) := by subst h29; exact Blk.new _ _ _
    have x29 := x25.trans x29'
    have hO29 := hO25.ext x29' (fun _ _ h => h)
    obtain ⟨a', c', w31, hrun, hO31, x31', hblk⟩ := hO29.push (ty := 36) Try.underlying36 (by have := W.Rd.lt hR25; have := x29'.size; omega) (by omega) (RowAt.of_blk hb29)
    have hlast : w25.heap.size + 1 = w29.heap.size := by subst h29; simp
    have hpl : p < w25.heap.size := W.Rd.lt hR25
    have hR29 := W.Rd.no hR25 x29'
    -- the append turns the row of the heads, or makes another
    have hR31 : Rd w31 p (numR (countR 200 (countR 7 (s.1, s.2)).2).2).2.1 (numR (countR 200 (countR 7 (s.1, s.2)).2).2).2.2  := W.Rd.up hR29 x31' fun q hq => by have := hq.1; omega
    refine ⟨a', _, c', w31, hrun, k, by omega, t + 1, a', c', _, (numR (countR 200 (countR 7 (s.1, s.2)).2).2).2, ?_, by omega, ?_, hR31, by omega, hO31, fun ad ha => ?_, hF, x29.then x31' fun q hq => .inr (by have := hq.1; omega)⟩
    · rw [w64 (by omega) (by omega), List.length_append]; rfl
    · rw [List.length_append]; simp; omega
    · rcases hblk ad ha with ⟨b0, hb0, e0⟩ | h
      · rw [e0]; exact hOp b0 hb0
      · omega

theorem eqf_step {P : Program} {w : World} {d : Nat} {xs ys : Array Value} {f : Field} {fs : List Field} {a b : Value} {r : Bool} (n : f.name ≠ "_") (qa : (part f.type xs f.offset).run P w = .ok a w) (qb : (part f.type ys f.offset).run P w = .ok b w) (he : (Op.equalIn d f.type a b).run P w = .ok r w) :
    (Op.eqFields d xs ys (f :: fs)).run P w = if r then (Op.eqFields d xs ys fs).run P w else .ok false w := by
  simp only [Op.eqFields, n, ne_eq, not_false_eq_true, if_true, Sem.run_bind, qa, qb, he, Result.andThen_ok]
  cases r <;> simp
theorem Q4S (w : World) (x y : Hd) : (binOp .neq 66 (hdV x) (hdV y)).run Try.prog w = .ok (.bool (decide (x ≠ y))) w := by
  obtain ⟨f0, f1, f2, ht, n0, n1, n2, o0, o1, o2, p0, p1, p2, u0, u1, u2, hp⟩ : ∃ f0 f1 f2, Try.prog.underlying 66 = some (.struct #[f0, f1, f2]) ∧ f0.name ≠ "_" ∧ f1.name ≠ "_" ∧ f2.name ≠ "_" ∧ f0.offset = 0 ∧ f1.offset = 1 ∧ f2.offset = 2 ∧
      Try.prog.plainKey f0.type = true ∧ Try.prog.plainKey f1.type = true ∧ Try.prog.plainKey f2.type = true ∧ Try.prog.underlying f0.type = some (.int .i64) ∧ Try.prog.underlying f1.type = some (.int .i64) ∧ Try.prog.underlying f2.type = some (.int .u64) ∧ Try.prog.stoodInHeld 66 = false :=
    ⟨_, _, _, Try.underlying66, by decide, by decide, by decide, rfl, rfl, rfl, by kernel_rfl, by kernel_rfl, by kernel_rfl, Try.underlying3, Try.underlying3, Try.underlying22, by kernel_rfl⟩
  have hf : Try.prog.fieldsOf 66 = #[f0, f1, f2] := by simp [Program.fieldsOf, ht]
  unfold hdV
  rw [run_neq_struct, show (10000 : Nat) = 9998 + 1 + 1 from rfl, run_equalIn_struct w (9998 + 1) _ _ _ (by rw [hf]; exact ht) hp, hf]
  have q : ∀ (z : Hd) (i : Nat) (f : Field) (v : Value), Try.prog.plainKey f.type = true → f.offset = i → (#[Value.int .i64 z.1, .int .i64 z.2.1, .int .u64 z.2.2] : Array Value)[i]? = some v → (part f.type #[Value.int .i64 z.1, .int .i64 z.2.1, .int .u64 z.2.2] f.offset).run Try.prog w = .ok v w := fun z i f v h1 h2 h3 => run_part_plain w h1 (by rw [h2]; exact h3)
  show Result.andThen ((Op.eqFields (9998 + 1) _ _ [f0, f1, f2]).run Try.prog w) _ = _
  rw [eqf_step n0 (q x 0 f0 _ p0 o0 rfl) (q y 0 f0 _ p0 o0 rfl) (run_equalIn_int w _ _ _ _ _ _ u0), eqf_step n1 (q x 1 f1 _ p1 o1 rfl) (q y 1 f1 _ p1 o1 rfl) (run_equalIn_int w _ _ _ _ _ _ u1), eqf_step n2 (q x 2 f2 _ p2 o2 rfl) (q y 2 f2 _ p2 o2 rfl) (run_equalIn_int w _ _ _ _ _ _ u2)]
  obtain ⟨x0, x1, x2⟩ := x
  obtain ⟨y0, y1, y2⟩ := y
  by_cases e0 : x0 = y0 <;> by_cases e1 : x1 = y1 <;> by_cases e2 : x2 = y2 <;> simp [e0, e1, e2, Op.eqFields]
theorem Q4Q {aa ba : Option Addr} {ac bc : Nat} {x y : List Hd} (ha : RowAt w aa (hsC x)) (hb : RowAt w ba (hsC y)) (hx : x.length < 1000000) :
    Calls Try.prog 36 #[.slice aa x.length ac, .slice ba y.length bc] w (GivesV (.bool (decide (x = y))) fun w' => Ext no w w') := by
  refine (rSame5.ok _ _ _ _ _ _ (R := fun v w' => v = .bool (decide (x = y)) ∧ Ext no w w') ?_).mono fun e w' ⟨v, he, hv, hw⟩ => ⟨by rw [he, hv], hw⟩
  unfold rSame5.M
  by_cases hl : x.length = y.length
  · have hl' : ((x.length : Int) != (y.length : Int)) = false := by simp [hl]
    rw [hl', cond_false]
    refine ⟨fun k vs w1 => ∃ i : Nat, vs = [.int .i64 i] ∧ k + i = x.length ∧ x.take i = y.take i ∧ Ext no w w1, x.length, ⟨0, rfl, rfl, rfl, Ext.refl _ _⟩, ?_⟩
    rintro k w1 i3 ⟨i, hi, hk, ht, hw⟩
    simp only [List.cons.injEq, Value.int.injEq, true_and, and_true] at hi
    subst hi
    cases k with
    | succ k =>
      have hlt : i < x.length := by omega
      have hi2 : i < y.length := by omega
      rw [show decide ((i : Int) < (x.length : Int)) = true by simp; omega, cond_true]
      refine Q02 fun w7 h7 => ?_
      have hw7 : Ext no w w7 := hw.trans (by subst h7; exact (Ext.refl _ _).drew)
      have hax := ha.no hw7
      have hby := hb.no hw7
      obtain ⟨ad, rfl⟩ := hax.addr (hsC_ne (by intro e; subst e; simp at hlt))
      obtain ⟨bd, rfl⟩ := hby.addr (hsC_ne (by intro e; subst e; simp at hi2))
      refine ⟨by omega, by omega, _, _, _, by rw [Int.toNat_natCast]; exact hs_at hax (List.getElem?_eq_getElem hlt), by omega, by omega, _, _, _, by rw [Int.toNat_natCast]; exact hs_at hby (List.getElem?_eq_getElem hi2), _, Q4S w7 x[i] y[i], ?_⟩
      by_cases he : x[i] = y[i]
      · rw [decide_eq_false (by simpa using he), cond_false]
        refine ⟨k, by omega, i + 1, by rw [w64 (by omega) (by omega)]; rfl, by omega, ?_, hw7⟩
        rw [List.take_add_one, List.take_add_one, ht]; simp [hlt, hi2, he]
      · rw [decide_eq_true he, cond_true]
        exact ⟨by rw [decide_eq_false]; rintro rfl; exact he rfl, hw7⟩
    | zero =>
      rw [show decide ((i : Int) < (x.length : Int)) = false by simp; omega, cond_false]
      obtain rfl : i = x.length := by omega
      refine ⟨?_, hw⟩
      have : x = y := by
        rw [List.take_length] at ht
        rw [hl, List.take_length] at ht
        exact ht
      simp [this]
  · have hl' : ((x.length : Int) != (y.length : Int)) = true := by simp; omega
    rw [hl', cond_true]
    exact ⟨by rw [decide_eq_false]; rintro rfl; exact hl rfl, Ext.refl _ _⟩
theorem sameB_spec {a b : Option Addr} {c d : Nat} {x y : List UInt8} (ha : RowAt w a (bytesV x)) (hb : RowAt w b (bytesV y)) (hx : x.length < 1000000) :
    Calls Try.prog 11 #[.slice a x.length c, .slice b y.length d] w (GivesV (.bool (decide (x = y))) fun w' => Ext no w w') := by
  refine (wSame.ok _ _ _ _ _ _ (R := fun v w' => v = .bool (decide (x = y)) ∧ Ext no w w') ?_).mono fun e w' ⟨v, he, hv, hw⟩ => ⟨by rw [he, hv], hw⟩
  unfold wSame.M
  by_cases hl : x.length = y.length
  · have hl' : ((x.length : Int) != (y.length : Int)) = false := by simp [hl]
    rw [hl', cond_false]
    refine ⟨fun k vs w1 => ∃ i : Nat, vs = [.int .i64 i] ∧ k = x.length - i ∧ i ≤ x.length ∧ x.take i = y.take i ∧ Ext no w w1, x.length, ⟨0, rfl, rfl, Nat.zero_le _, rfl, Ext.refl _ _⟩, ?_⟩
    rintro k w1 i3 ⟨i, hi, rfl, hle, ht, hw⟩
    simp only [List.cons.injEq, Value.int.injEq, true_and, and_true] at hi
    subst hi
    by_cases hlt : i < x.length
    · have hd : decide ((i : Int) < (x.length : Int)) = true := by simp [hlt]
      rw [hd, cond_true]
      refine Q02 fun w7 h7 => ?_
      have hw7 : Ext no w w7 := hw.trans (by subst h7; exact (Ext.refl _ _).drew)
      have hi2 : i < y.length := hl ▸ hlt
      have hax := ha.ext hw7 (fun _ _ h => h)
      have hby := hb.ext hw7 (fun _ _ h => h)
      obtain ⟨ad, rfl⟩ := hax.addr (by intro e; rw [bytesV, List.map_eq_nil_iff] at e; subst e; simp at hlt)
      obtain ⟨bd, rfl⟩ := hby.addr (by intro e; rw [bytesV, List.map_eq_nil_iff] at e; subst e; simp at hi2)
      refine ⟨by omega, by omega, x[i].toNat, ?_, by omega, by omega, y[i].toNat, ?_, ?_⟩
      · rw [show Int.toNat (i : Int) * 1 = i by omega]; exact hax.at_ (Q13 hlt)
      · rw [show Int.toNat (i : Int) * 1 = i by omega]; exact hby.at_ (Q13 hi2)
      · by_cases he : x[i] = y[i]
        · have h1 : ((x[i].toNat : Int) != (y[i].toNat : Int)) = false := by simp [he]
          rw [h1, cond_false]
          refine ⟨x.length - (i + 1), by omega, i + 1, by rw [w64 (by omega) (by omega)]; rfl, rfl, by omega, ?_, hw7⟩
          rw [List.take_add_one, List.take_add_one, ht]; simp [hlt, hi2, he]
        · have h1 : ((x[i].toNat : Int) != (y[i].toNat : Int)) = true := by
            simp only [bne_iff_ne, ne_eq, Int.natCast_inj, UInt8.toNat_inj]; exact he
          rw [h1, cond_true]
          exact ⟨by rw [decide_eq_false]; rintro rfl; exact he rfl, hw7⟩
    · have hd : decide ((i : Int) < (x.length : Int)) = false := by simp; omega
      rw [hd, cond_false]
      obtain rfl : i = x.length := by omega
      refine ⟨?_, hw⟩
      have : x = y := by
        rw [List.take_length] at ht
        rw [hl, List.take_length] at ht
        exact ht
      simp [this]
  · have hl' : ((x.length : Int) != (y.length : Int)) = true := by simp; omega
    rw [hl', cond_true]
    exact ⟨by rw [decide_eq_false]; rintro rfl; exact hl rfl, Ext.refl _ _⟩
end

/-! ### the plain law: what is written is read, and what is read is what was written -/
theorem numR_write {n : Nat} (h : n < 18446744073709551616) (r : List UInt8) : numR (numL n ++ r, 0) = (n, (r, 0)) := by
  unfold numR; rw [if_pos rfl, rd_num h]
theorem countR_write {n : Nat} {m : Int} (h : n < 18446744073709551616) (hm : (n : Int) ≤ m) (r : List UInt8) : countR m (numL n ++ r, 0) = (n, (r, 0)) := by
  unfold countR
  rw [numR_write h, if_pos rfl, if_neg (by show ¬ (m < 0 ∨ (n : Int) > m); omega)]
theorem Q3v {s : List UInt8 × Int} (h : s.2 ≠ 0) : (numR s).2.2 ≠ 0 := by
  unfold numR; rw [if_neg h]; exact h
theorem numR_good {s : List UInt8 × Int} (h : (numR s).2.2 = 0) : s.2 = 0 ∧ s.1 = numL (numR s).1 ++ (numR s).2.1 := by
  have h0 : s.2 = 0 := Decidable.byContradiction fun e => Q3v e h
  refine ⟨h0, ?_⟩
  unfold numR at h ⊢
  rw [if_pos h0] at h ⊢
  cases hr : rdNum s.1 with
  | none => rw [hr] at h; exact absurd h (by decide)
  | some q => obtain ⟨n, r⟩ := q; exact (rd_back hr).1
theorem countR_good {m : Int} {s : List UInt8 × Int} (h : (countR m s).2.2 = 0) : s.2 = 0 ∧ s.1 = numL (countR m s).1 ++ (countR m s).2.1 := by
  unfold countR at h ⊢
  by_cases h1 : (numR s).2.2 = 0
  · rw [if_pos h1] at h ⊢
    by_cases h2 : m < 0 ∨ ((numR s).1 : Int) > m
    · rw [if_pos h2] at h; exact absurd h (by decide)
    · rw [if_neg h2]; exact numR_good h1
  · rw [if_neg h1] at h; exact absurd h h1
theorem Q3i : ∀ (hs l : List Hd), (∀ h ∈ hs, rhead h = true ∧ 0 ≤ h.2.2 ∧ h.2.2 < 18446744073709551616) → readF hs.length l (hs.flatMap hdL, 0) = (l ++ hs, ([], 0))
  | [], l, _ => by simp [readF]
  | h :: r, l, hh => by
    obtain ⟨h1, h2, h3⟩ := hh h List.mem_cons_self
    simp only [rhead, Bool.and_eq_true, decide_eq_true_eq] at h1
    obtain ⟨a1, a2, a3, a4, _⟩ := h1
    simp only [List.length_cons, readF, List.flatMap_cons, hdL, List.append_assoc]
    rw [countR_write (by omega) (by omega), countR_write (by omega) (by omega), numR_write (by omega)]
    have he : (((h.1.toNat : Nat) : Int), ((h.2.1.toNat : Nat) : Int), ((h.2.2.toNat : Nat) : Int)) = h := by
      obtain ⟨x, y, z⟩ := h
      simp only at *
      rw [Int.toNat_of_nonneg (by omega), Int.toNat_of_nonneg (by omega), Int.toNat_of_nonneg (by omega)]
    simp only []
    rw [he, Q3i r (l ++ [h]) fun q hq => hh q (List.mem_cons_of_mem _ hq)]
    simp
theorem Q3d : ∀ (n : Nat) (l : List Hd) (s : List UInt8 × Int), (readF n l s).2.2 = 0 → s.2 = 0 ∧ ∃ hs : List Hd, (readF n l s).1 = l ++ hs ∧ hs.length = n ∧ s.1 = hs.flatMap hdL ++ (readF n l s).2.1 ∧ ∀ h ∈ hs, natH h
  | 0, l, s, h => ⟨h, [], by simp [readF], rfl, rfl, by simp⟩
  | n + 1, l, s, h => by
    simp only [readF] at h ⊢
    obtain ⟨k3, hs, e1, e2, e3, e4⟩ := Q3d n _ _ h
    obtain ⟨k2, f2⟩ := numR_good k3
    obtain ⟨k1, f1⟩ := countR_good k2
    obtain ⟨k0, f0⟩ := countR_good k1
    have l1 := Q2h 7 s (by decide)
    have l2 := Q2h 200 (countR 7 s).2 (by decide)
    have l3 := W.numR_lt (countR 200 (countR 7 s).2).2
    refine ⟨k0, _ :: hs, by rw [e1, List.append_assoc]; rfl, by rw [List.length_cons, e2], ?_, fun q hq => ?_⟩
    · rw [f0, f1, f2, e3]
      simp [hdL]
    · rcases List.mem_cons.1 hq with rfl | hq
      · refine ⟨?_, ?_, ?_, ?_, ?_, ?_⟩ <;> first | omega | (dsimp only; omega)
      · exact e4 q hq
theorem Q1Q {hs : List Hd} (h : rightV hs = true) : hs.length ≤ 8 := by
  by_cases h0 : hs.length = 0
  · omega
  have key : ∀ i (hi : i < hs.length), (i : Int) ≤ hs[i].1 := by
    intro i
    induction i with
    | zero =>
      intro hi
      have := Q1s h hs[0] (List.getElem_mem hi)
      simp only [rhead, Bool.and_eq_true, decide_eq_true_eq] at this
      have := this.1
      omega
    | succ i ih =>
      intro hi
      have h1 := ih (by omega)
      have h2 := Q50 hs h (i := i) (j := i + 1) (by omega) (List.getElem?_eq_getElem (by omega)) (List.getElem?_eq_getElem hi)
      omega
  have h1 := key (hs.length - 1) (by omega)
  have := Q1s h hs[hs.length - 1] (List.getElem_mem (by omega))
  simp only [rhead, Bool.and_eq_true, decide_eq_true_eq] at this
  have := this.2.1
  omega
theorem Q31 {hs : List Hd} (h : rightV hs = true) (hf : ∀ h ∈ hs, 0 ≤ h.2.2 ∧ h.2.2 < 18446744073709551616) : readV (vecL hs) = (hs, 0) := by
  have hl := Q1Q h
  have hra : readAll (vecL hs) = (hs, ([], 0)) := by
    unfold readAll vecL
    rw [countR_write (by omega) (by omega)]
    show readF hs.length [] (hs.flatMap hdL, 0) = _
    rw [Q3i hs [] fun q hq => ⟨Q1s h q hq, hf q hq⟩]
    simp
  unfold readV
  rw [hra]
  simp [doneR, h]
theorem Q2y {b : List UInt8} (h : (readV b).2 = 0) : rightV (readV b).1 = true ∧ vecL (readV b).1 = b ∧ ∀ q ∈ (readV b).1, natH q := by
  unfold readV at h ⊢
  by_cases hd : doneR (readAll b).2 ≠ 0
  · rw [if_pos hd] at h; exact absurd h hd
  rw [if_neg hd] at h ⊢
  by_cases hr : rightV (readAll b).1 = true
  · rw [if_pos hr]
    have hd := Decidable.not_not.1 hd
    have hk : (readAll b).2.2 = 0 ∧ (readAll b).2.1 = [] := by
      unfold doneR at hd
      by_cases h0 : (readAll b).2.2 = 0
      · rw [if_pos h0] at hd
        refine ⟨h0, ?_⟩
        by_cases h1 : (readAll b).2.1.length > 0
        · rw [if_pos h1] at hd; exact absurd hd (by decide)
        · exact List.eq_nil_of_length_eq_zero (by omega)
      · rw [if_neg h0] at hd; exact absurd hd h0
    obtain ⟨k0, hs, e1, e2, e3, e4⟩ := Q3d (countR 8 (b, 0)).1 [] (countR 8 (b, 0)).2 hk.1
    obtain ⟨_, f0⟩ := countR_good k0
    rw [List.nil_append] at e1
    have e1' : (readAll b).1 = hs := e1
    refine ⟨hr, ?_, fun q hq => e4 q (by rw [← e1']; exact hq)⟩
    rw [e1', vecL, e2]
    have e3' : (countR 8 (b, 0)).2.1 = hs.flatMap hdL ++ (readAll b).2.1 := e3
    rw [hk.2, List.append_nil] at e3'
    rw [← e3']
    exact f0.symm
  · rw [if_neg hr] at h; exact absurd h (by decide)
theorem Q4A {b : List UInt8} (h : (readV b).2 ≠ 0) : (readV b).1 = [] := by
  unfold readV at h ⊢
  by_cases hd : doneR (readAll b).2 ≠ 0
  · rw [if_pos hd]
  · rw [if_neg hd] at h ⊢
    by_cases hr : rightV (readAll b).1 = true
    · rw [if_pos hr] at h; exact absurd rfl h
    · rw [if_neg hr]
open W (OwnB Rd GivesW numR countR doneR)
def rBytes5.M (aw : Option Addr) (aj bg : Nat) (R : RW) (w : World) : Prop :=
 Calls Try.prog 51 #[.slice aw aj bg] w fun ba b6 => ∃ (a3 : Bool), ba = .returned (.bool a3) ∧
 bif !a3 then (
 R (.tuple #[.slice none 0 0, .int .i64 1]) b6) else (
 Calls Try.prog 39 #[.int .u64 (IntKind.u64.wrap (aj : Int))] b6 fun b9 be => ∃ (ac : Option Addr) (af ae : Nat), b9 = .returned (.slice ac af ae) ∧
 ∃ (I0 : Nat → List Value → World → Prop) (bf : Nat), I0 bf [.slice ac af ae, .int .i64 0] be ∧ ∀ (b8 : Nat) (ab : World) (ay : Option Addr) (b1 b5 : Nat) (i9 : Int), I0 b8 [.slice ay b1 b5, .int .i64 i9] ab →
 bif decide (i9 < (aj : Int)) then (
 aw.elim False fun bb =>
 0 ≤ (i9 : Int) ∧ (i9 : Int) < (aj : Int) ∧
 ∃ (a0 : Int), ab.cell? ((bb.add (Int.toNat i9 * 3)).add 0) = some (.int .i64 a0) ∧
 Calls Try.prog 39 #[.int .u64 (IntKind.u64.wrap a0)] ab fun b3 ax => ∃ (aa : Option Addr) (a6 a1 : Nat), b3 = .returned (.slice aa a6 a1) ∧
 ∃ (au : Option Addr) (an ap : Nat) (ah : World), (Builtin.append_ #[25, 25] 25 #[.slice ay b1 b5, .slice aa a6 a1]).run Try.prog ax = .ok (.slice au an ap) ah ∧
 aw.elim False fun bc =>
 0 ≤ (i9 : Int) ∧ (i9 : Int) < (aj : Int) ∧
 ∃ (ad : Int), ah.cell? ((bc.add (Int.toNat i9 * 3)).add 1) = some (.int .i64 ad) ∧
 Calls Try.prog 39 #[.int .u64 (IntKind.u64.wrap ad)] ah fun b0 az => ∃ (a2 : Option Addr) (a8 a5 : Nat), b0 = .returned (.slice a2 a8 a5) ∧
 ∃ (al : Option Addr) (ak ar : Nat) (ai : World), (Builtin.append_ #[25, 25] 25 #[.slice au an ap, .slice a2 a8 a5]).run Try.prog az = .ok (.slice al ak ar) ai ∧
 aw.elim False fun bd =>
 0 ≤ (i9 : Int) ∧ (i9 : Int) < (aj : Int) ∧
 ∃ (ag : Int), ai.cell? ((bd.add (Int.toNat i9 * 3)).add 2) = some (.int .u64 ag) ∧
 Calls Try.prog 39 #[.int .u64 ag] ai fun b4 b2 => ∃ (a7 : Option Addr) (a9 a4 : Nat), b4 = .returned (.slice a7 a9 a4) ∧
 ∃ (aq : Option Addr) (am ao : Nat) (av : World), (Builtin.append_ #[25, 25] 25 #[.slice al ak ar, .slice a7 a9 a4]).run Try.prog b2 = .ok (.slice aq am ao) av ∧
 ∃ b7, b7 < b8 ∧ I0 b7 [.slice aq am ao, .int .i64 (IntKind.i64.wrap (i9 + 1))] av) else (
 R (.tuple #[.slice ay b1 b5, .int .i64 0]) ab))

theorem rBytes5.ok (a1 : Option Addr) (a0 a2 : Nat) {R : RW} {w : World} (h : rBytes5.M a1 a0 a2 R w) : Calls Try.prog 40 #[.slice a1 a0 a2] w fun e w' => ∃ v, e = .returned v ∧ R v w' :=
  Q08 follows (H := [(0, [0], [(4, (.one .slice)), (5, (.one (.int .i64)))])]) (args := [.slice a1 a0 a2]) (cast (by kernel_rfl) h)

def rRight5.M (a9 : Option Addr) (a8 ah : Nat) (R : RW) (w : World) : Prop :=
 ∃ (I0 : Nat → List Value → World → Prop) (m3 : Nat), I0 m3 [.int .i64 0] w ∧ ∀ (m4 : Nat) (ab : World) (i2 : Int), I0 m4 [.int .i64 i2] ab →
 bif decide (i2 < (a8 : Int)) then (
 thenW (ab.drew) fun ad =>
 a9.elim False fun a7 =>
 0 ≤ (i2 : Int) ∧ (i2 : Int) < (a8 : Int) ∧
 ∃ (a1 a6 a5 : Int), cellsAt ad (a7.add (Int.toNat i2 * 3)) [.int .i64 a1, .int .i64 a6, .int .u64 a5] 0 ∧
 Calls Try.prog 69 #[.agg #[.int .i64 a1, .int .i64 a6, .int .u64 a5]] ad fun aa a4 => ∃ (a0 : Bool), aa = .returned (.bool a0) ∧
 bif !a0 then (
 R (.bool false) a4) else (
 bif decide (i2 > 0) then (
 a9.elim False fun af =>
 0 ≤ ((IntKind.i64.wrap (i2 - 1)) : Int) ∧ ((IntKind.i64.wrap (i2 - 1)) : Int) < (a8 : Int) ∧
 ∃ (a3 : Int), a4.cell? ((af.add (Int.toNat (IntKind.i64.wrap (i2 - 1)) * 3)).add 0) = some (.int .i64 a3) ∧
 a9.elim False fun ag =>
 0 ≤ (i2 : Int) ∧ (i2 : Int) < (a8 : Int) ∧
 ∃ (a2 : Int), a4.cell? ((ag.add (Int.toNat i2 * 3)).add 0) = some (.int .i64 a2) ∧
 bif decide (a3 ≥ a2) then (
 R (.bool false) a4) else (
 ∃ ac, ac < m4 ∧ I0 ac [.int .i64 (IntKind.i64.wrap (i2 + 1))] a4)) else (
 ∃ ae, ae < m4 ∧ I0 ae [.int .i64 (IntKind.i64.wrap (i2 + 1))] a4))) else (
 R (.bool true) ab)

theorem rRight5.ok (a1 : Option Addr) (a0 a2 : Nat) {R : RW} {w : World} (h : rRight5.M a1 a0 a2 R w) : Calls Try.prog 51 #[.slice a1 a0 a2] w fun e w' => ∃ v, e = .returned v ∧ R v w' :=
  Q08 follows (H := [(0, [0], [(3, (.one (.int .i64)))])]) (args := [.slice a1 a0 a2]) (cast (by kernel_rfl) h)

def rRH5.M (a2 a6 a7 : Int) (R : RW) (w : World) : Prop :=
 thenW (w.alloc (.cells #[.int .i64 a2, .int .i64 a6, .int .u64 a7] 66)) fun a3 =>
 ∃ (a1 : Int), a3.cell? ((blk w.heap.size).add 0) = some (.int .i64 a1) ∧
 bif decide (a1 ≥ 0) then (
 ∃ (a0 : Int), a3.cell? ((blk w.heap.size).add 0) = some (.int .i64 a0) ∧
 bif decide (a0 < 8) then (
 ∃ (a8 : Int), a3.cell? ((blk w.heap.size).add 1) = some (.int .i64 a8) ∧
 bif decide (a8 ≥ 1) then (
 ∃ (a4 : Int), a3.cell? ((blk w.heap.size).add 1) = some (.int .i64 a4) ∧
 bif decide (a4 ≤ 200) then (
 ∃ (a5 : Int), a3.cell? ((blk w.heap.size).add 2) = some (.int .u64 a5) ∧
 R (.bool (a5 != 0)) a3) else (
 R (.bool false) a3)) else (
 R (.bool false) a3)) else (
 R (.bool false) a3)) else (
 R (.bool false) a3)

theorem rRH5.ok (a0 a1 a2 : Int) {R : RW} {w : World} (h : rRH5.M a0 a1 a2 R w) : Calls Try.prog 69 #[.agg #[.int .i64 a0, .int .i64 a1, .int .u64 a2]] w fun e w' => ∃ v, e = .returned v ∧ R v w' :=
  Q08 follows (H := []) (args := [.agg #[.int .i64 a0, .int .i64 a1, .int .u64 a2]]) (cast (by kernel_rfl) h)

def rNum.M (n1 : Int) (R : RW) (w : World) : Prop :=
 bif decide (n1 < 128) then (
 thenW (w.alloc (.cells #[.int .u8 (IntKind.u8.wrap n1)] 5)) fun a7 =>
 R (.slice (some (blk w.heap.size)) 1 1) a7) else (
 128 ≠ (0 : Int) ∧ thenW (w.alloc (.cells #[.int .u8 (IntKind.u8.wrap ((IntKind.u8.wrap (Int.tmod n1 128)) + 128))] 5)) fun a8 =>
 128 ≠ (0 : Int) ∧ Calls Try.prog 39 #[.int .u64 (IntKind.u64.wrap (Int.tdiv n1 128))] a8 fun aa a9 => ∃ (a2 : Option Addr) (a1 a0 : Nat), aa = .returned (.slice a2 a1 a0) ∧
 ∃ (a4 : Option Addr) (a5 a6 : Nat) (a3 : World), (Builtin.append_ #[25, 25] 25 #[.slice (some (blk w.heap.size)) 1 1, .slice a2 a1 a0]).run Try.prog a9 = .ok (.slice a4 a5 a6) a3 ∧
 R (.slice a4 a5 a6) a3)

theorem rNum.eq (n1 : Int) (R : RW) (w : World) : mfunc Try.prog [] 39 [.int .u64 n1] R w = rNum.M n1 R w := by kernel_rfl
theorem rNum.ok (n1 : Int) {R : RW} {w : World} (h : rNum.M n1 R w) : Calls Try.prog 39 #[.int .u64 n1] w fun e w' => ∃ v, e = .returned v ∧ R v w' :=
  Q08 follows (H := []) (args := [.int .u64 n1]) (by rw [rNum.eq]; exact h)

theorem Q1T : ∀ (k m : Nat), m < 128 ^ k → 0 < k → numF (k + 1) m = numF k m
  | k + 1, m, h, _ => by
    by_cases h1 : m < 128
    · rw [numF, if_pos h1, numF, if_pos h1]
    · rw [numF, if_neg h1]
      conv => rhs; rw [numF, if_neg h1]
      have hk : 0 < k := Nat.pos_of_ne_zero fun e => by subst e; simp at h; omega
      rw [Q1T k (m / 128) (by rw [Nat.pow_succ] at h; omega) hk]
theorem Q35 {n : Nat} (h : n < 18446744073709551616) (h1 : ¬ n < 128) : numL n = UInt8.ofNat (n % 128 + 128) :: numL (n / 128) := by
  unfold numL
  rw [numF, if_neg h1, Q1T 9 (n / 128) (by omega) (by decide)]
section
variable {w w' : World} {a : Option Addr} {c : Nat} {hs : List Hd}
theorem Q5A (h : Hd) : Calls Try.prog 69 #[hdV h] w (GivesV (.bool (rhead h)) fun w' => Ext no w w') := by
  refine (rRH5.ok _ _ _ (R := fun v w' => v = .bool (rhead h) ∧ Ext no w w') ?_).mono fun e w' ⟨v, he, hv, hw⟩ => ⟨by rw [he, hv], hw⟩
  unfold rRH5.M
  refine Q02 fun w4 h4 => ?_
  have hb : Blk w4 w.heap.size 66 (hdC h) := by subst h4; exact Blk.new _ _ _
  have hx : Ext no w w4 := by subst h4; exact (Ext.refl _ _).alloc _
  refine ⟨_, hb.cella (i := 0) rfl, ?_⟩
  unfold rhead
  by_cases c1 : h.1 ≥ 0
  · rw [decide_eq_true c1, cond_true, Bool.true_and]
    refine ⟨_, hb.cella (i := 0) rfl, ?_⟩
    by_cases c2 : h.1 < 8
    · rw [decide_eq_true c2, cond_true, Bool.true_and]
      refine ⟨_, hb.cella (i := 1) rfl, ?_⟩
      by_cases c3 : h.2.1 > 0
      · rw [decide_eq_true c3, decide_eq_true (by omega : h.2.1 ≥ 1), cond_true, Bool.true_and]
        refine ⟨_, hb.cella (i := 1) rfl, ?_⟩
        by_cases c4 : h.2.1 ≤ 200
        · rw [decide_eq_true c4, cond_true, Bool.true_and]
          exact ⟨_, hb.cella (i := 2) rfl, rfl, hx⟩
        · rw [decide_eq_false c4]; exact ⟨rfl, hx⟩
      · rw [decide_eq_false c3, decide_eq_false (by omega : ¬ h.2.1 ≥ 1)]; exact ⟨rfl, hx⟩
    · rw [decide_eq_false c2]; exact ⟨rfl, hx⟩
  · rw [decide_eq_false c1]; exact ⟨rfl, hx⟩
theorem Q1I (hr : RowAt w a (hsC hs)) (hl : hs.length < 1000000) : Calls Try.prog 51 #[.slice a hs.length c] w (GivesV (.bool (rightV hs)) fun w' => Ext no w w') := by
  refine (rRight5.ok _ _ _ (R := fun v w' => v = .bool (rightV hs) ∧ Ext no w w') ?_).mono fun e w' ⟨v, he, hv, hw⟩ => ⟨by rw [he, hv], hw⟩
  unfold rRight5.M
  refine ⟨fun k vs w1 => ∃ t : Nat, vs = [.int .i64 t] ∧ k + t = hs.length ∧ rightF (prevOf hs t) (hs.drop t) = rightV hs ∧ Ext no w w1, hs.length, ⟨0, rfl, rfl, rfl, Ext.refl _ _⟩, ?_⟩
  rintro k w1 i ⟨t, hi, hk, hf, hx⟩
  simp only [List.cons.injEq, Value.int.injEq, true_and, and_true] at hi
  subst hi
  cases k with
  | zero =>
    obtain rfl : t = hs.length := by omega
    rw [show decide ((hs.length : Int) < (hs.length : Int)) = false by simp, cond_false]
    rw [List.drop_length] at hf
    exact ⟨by rw [← hf]; cases prevOf hs hs.length <;> rfl, hx⟩
  | succ k =>
    have ht : t < hs.length := by omega
    rw [show decide ((t : Int) < (hs.length : Int)) = true by simp; omega, cond_true]
    refine Q02 fun w6 h6 => ?_
    have x6 : Ext no w w6 := hx.trans (by subst h6; exact (Ext.refl _ _).drew)
    have hr1 := hr.no x6
    obtain ⟨ad, rfl⟩ := hr1.addr (hsC_ne (by intro e; subst e; simp at ht))
    have hgi : hs[t]? = some hs[t] := List.getElem?_eq_getElem ht
    refine ⟨by omega, by omega, _, _, _, by rw [Int.toNat_natCast]; exact hs_at hr1 hgi, ?_⟩
    refine (Q5A hs[t]).mono fun e w20 ⟨he, x20'⟩ => ⟨_, he, ?_⟩
    have x20 := x6.trans x20'
    have hd : hs.drop t = hs[t] :: hs.drop (t + 1) := List.drop_eq_getElem_cons ht
    rw [hd] at hf
    simp only [rightF] at hf
    by_cases c1 : rhead hs[t] = true
    · rw [c1, Bool.not_true, cond_false]
      rw [c1, Bool.true_and] at hf
      have hw1 : IntKind.i64.wrap ((t : Int) + 1) = ((t + 1 : Nat) : Int) := by rw [w64 (by omega) (by omega)]; rfl
      cases t with
      | zero =>
        rw [show decide (((0 : Nat) : Int) > 0) = false from rfl, cond_false]
        exact ⟨k, by omega, 1, by rw [hw1], by omega, by rw [← hf]; simp [prevOf, ht], x20⟩
      | succ t =>
        rw [show decide (((t + 1 : Nat) : Int) > 0) = true by simp <;> omega, cond_true]
        have htl : t < hs.length := by omega
        have hgp : hs[t]? = some hs[t] := List.getElem?_eq_getElem htl
        have hw2 : IntKind.i64.wrap (((t + 1 : Nat) : Int) - 1) = (t : Int) := by rw [w64 (by omega) (by omega)] <;> omega
        rw [hw2]
        refine ⟨by omega, by omega, _, by rw [Int.toNat_natCast]; exact hs_cell (hr.no x20) hgp (j := 0) rfl, by omega, by omega, _, by rw [Int.toNat_natCast]; exact hs_cell (hr.no x20) hgi (j := 0) rfl, ?_⟩
        simp only [prevOf, hgp, Option.map_some] at hf
        by_cases c2 : hs[t].1 ≥ hs[t + 1].1
        · rw [decide_eq_true c2, cond_true]
          rw [decide_eq_false (by omega), Bool.false_and] at hf
          exact ⟨by rw [← hf], x20⟩
        · rw [decide_eq_false c2, cond_false]
          rw [decide_eq_true (by omega), Bool.true_and] at hf
          exact ⟨k, by omega, t + 2, by rw [hw1], by omega, by rw [← hf]; simp [prevOf, ht], x20⟩
    · have c1' : rhead hs[t] = false := by simpa using c1
      rw [c1', Bool.not_false, cond_true]
      rw [c1', Bool.false_and, Bool.false_and] at hf
      exact ⟨by rw [← hf], x20⟩
theorem rNum_spec : ∀ (n : Nat) (w : World), n < 18446744073709551616 → Calls Try.prog 39 #[.int .u64 n] w (fun e w' => ∃ a' c', e = .returned (.slice a' (numL n).length c') ∧ OwnB w.heap.size w' a' c' (numL n) ∧ Ext no w w') := by
  intro n
  induction n using Nat.strongRecOn with
  | _ n ih =>
    intro w hn
    refine (rNum.ok _ (R := fun v w' => ∃ a' c', v = (.slice a' (numL n).length c') ∧ OwnB w.heap.size w' a' c' (numL n) ∧ Ext no w w') ?_).mono fun e w' ⟨v, he, a', c', hv, hw⟩ => ⟨a', c', by rw [he, hv], hw⟩
    unfold rNum.M
    have one : ∀ (w2 : World) (x : UInt8), w2 = w.alloc (.cells #[.int .u8 (x.toNat : Int)] 5) → OwnB w.heap.size w2 (some (blk w.heap.size)) 1 [x] ∧ Ext no w w2 := fun w2 x h2 => by
      have hb : Blk w2 w.heap.size 5 (bytesV [x]) := by subst h2; exact Blk.new _ _ _
      exact ⟨⟨Q1J hb rfl (by simp [maxLen]), fun ad ha => by cases ha; exact ⟨Nat.le_refl _, hb.lt⟩⟩, by subst h2; exact (Ext.refl _ _).alloc _⟩
    by_cases h1 : n < 128
    · rw [show decide ((n : Int) < 128) = true by simp; omega, cond_true]
      have hv : IntKind.u8.wrap (n : Int) = ((UInt8.ofNat n).toNat : Int) := by rw [wu8 (by omega) (by omega), ofNat_lt (by omega)]
      have hL : numL n = [UInt8.ofNat n] := by unfold numL; rw [numF, if_pos h1]
      rw [hv, hL]
      refine Q02 fun w2 h2 => ?_
      obtain ⟨q1, q2⟩ := one w2 _ h2
      exact ⟨_, 1, rfl, q1, q2⟩
    · rw [show decide ((n : Int) < 128) = false by simp; omega, cond_false]
      have hm : Int.tmod (n : Int) 128 = ((n % 128 : Nat) : Int) := by rw [Int.tmod_eq_emod_of_nonneg (by omega)]; omega
      have hd : Int.tdiv (n : Int) 128 = ((n / 128 : Nat) : Int) := by rw [Int.tdiv_eq_ediv_of_nonneg (by omega)]; omega
      have hv : IntKind.u8.wrap ((IntKind.u8.wrap (Int.tmod (n : Int) 128)) + 128) = ((UInt8.ofNat (n % 128 + 128)).toNat : Int) := by
        rw [hm, wu8 (n := ((n % 128 : Nat) : Int)) (by omega) (by omega), wu8 (by omega) (by omega), ofNat_lt (by omega)]; omega
      rw [hv, hd, wu64 (by omega) (by omega), Q35 hn h1]
      refine ⟨by decide, Q02 fun w3 h3 => ⟨by decide, ?_⟩⟩
      obtain ⟨q1, q2⟩ := one w3 _ h3
      refine (ih (n / 128) (by omega) w3 (by omega)).mono fun e w6 ⟨a6, c6, he, ho6, x6⟩ => ⟨a6, _, c6, he, ?_⟩
      obtain ⟨a', c', w8, hr, ho8, x8⟩ := (W.OwnB.no q1 x6).append (t := 25) (ty := 25) Try.underlying25 (Nat.le_trans q2.size x6.size) (xc := c6) (W.OwnB.row ho6) (by have := numL_le (n / 128); simp; omega)
      exact ⟨a', _, c', w8, hr, a', c', rfl, ho8, (q2.trans x6).then x8 fun b hb => .inr hb⟩

theorem Q3I (hr : RowAt w a (hsC hs)) (hl : hs.length ≤ 1000) (hn : rightV hs = true → ∀ h ∈ hs, natH h) :
    Calls Try.prog 40 #[.slice a hs.length c] w (fun e w' => Ext no w w' ∧ ((rightV hs = false ∧ e = .returned (.tuple #[.slice none 0 0, .int .i64 1])) ∨ (rightV hs = true ∧ ∃ a' c', e = .returned (.tuple #[.slice a' (vecL hs).length c', .int .i64 0]) ∧ OwnB w.heap.size w' a' c' (vecL hs)))) := by
  refine (rBytes5.ok _ _ _ (R := fun v w' => Ext no w w' ∧ ((rightV hs = false ∧ v = .tuple #[.slice none 0 0, .int .i64 1]) ∨ (rightV hs = true ∧ ∃ a' c', v = .tuple #[.slice a' (vecL hs).length c', .int .i64 0] ∧ OwnB w.heap.size w' a' c' (vecL hs)))) ?_).mono fun e w' ⟨v, he, hx, hv⟩ => ⟨hx, hv.imp (fun ⟨h1, h2⟩ => ⟨h1, by rw [he, h2]⟩) (fun ⟨h1, a', c', h2, h3⟩ => ⟨h1, a', c', by rw [he, h2], h3⟩)⟩
  unfold rBytes5.M
  refine (Q1I hr (by omega)).mono fun e w4 ⟨he, x4⟩ => ⟨_, he, ?_⟩
  by_cases hright : rightV hs = true
  · rw [hright, Bool.not_true, cond_false]
    have hnat := hn hright
    rw [wu64 (n := (hs.length : Int)) (by omega) (by omega)]
    refine (rNum_spec hs.length w4 (by omega)).mono fun e w7 ⟨a7, c7, he, ho7, x7'⟩ => ⟨a7, _, c7, he, ?_⟩
    have x7 := x4.trans x7'
    refine ⟨fun k vs w1 => ∃ (t : Nat) (a1 : Option Addr) (c1 : Nat), vs = [.slice a1 (numL hs.length ++ (hs.take t).flatMap hdL).length c1, .int .i64 t] ∧ k + t = hs.length ∧ OwnB w.heap.size w1 a1 c1 (numL hs.length ++ (hs.take t).flatMap hdL) ∧ Ext no w w1, hs.length,
      ⟨0, a7, c7, by simp, rfl, by simpa using OwnB.mono ho7 x4.size, x7⟩, ?_⟩
    rintro k w12 b0 n0 c0 i ⟨t, a1, c1, hvs, hk, ho, hx⟩
    simp only [List.cons.injEq, Value.int.injEq, Value.slice.injEq, true_and, and_true] at hvs
    obtain ⟨⟨rfl, rfl, rfl⟩, rfl⟩ := hvs
    cases k with
    | zero =>
      obtain rfl : t = hs.length := by omega
      rw [show decide ((hs.length : Int) < (hs.length : Int)) = false by simp, cond_false]
      rw [List.take_length] at ho ⊢
      exact ⟨hx, .inr ⟨rfl, _, _, rfl, ho⟩⟩
    | succ k =>
      have ht : t < hs.length := by omega
      rw [show decide ((t : Int) < (hs.length : Int)) = true by simp; omega, cond_true]
      have hr1 := hr.no hx
      obtain ⟨ad, rfl⟩ := hr1.addr (hsC_ne (by intro e; subst e; simp at ht))
      have hgi : hs[t]? = some hs[t] := List.getElem?_eq_getElem ht
      obtain ⟨m1, m2, m3, m4, m5, m6⟩ := hnat hs[t] (List.getElem_mem ht)
      have hlen : (numL hs.length ++ (hs.take t).flatMap hdL).length ≤ 10 + 30 * 1000 := by
        have h1 := numL_le hs.length
        have h2 := hdsL_le (hs.take t)
        rw [List.length_take] at h2
        rw [List.length_append]; omega
      have n1 := numL_le hs[t].1.toNat; have n2 := numL_le hs[t].2.1.toNat; have n3 := numL_le hs[t].2.2.toNat
      -- one number more
      have step : ∀ (w1 : World) (n : Nat) (l : List UInt8) (b1 : Option Addr) (c1 : Nat), n < 18446744073709551616 → l.length ≤ 40000 → OwnB w.heap.size w1 b1 c1 l → Ext no w w1 → ∀ (x : Int), x = (n : Int) → ∀ (K : Option Addr → Nat → Nat → World → Prop),
          (∀ a2 c2 w2, OwnB w.heap.size w2 a2 c2 (l ++ numL n) → Ext no w w2 → K a2 (l ++ numL n).length c2 w2) →
          Calls Try.prog 39 #[.int .u64 x] w1 fun ee ww => ∃ (na : Option Addr) (nn nc : Nat), ee = .returned (.slice na nn nc) ∧ ∃ (ra : Option Addr) (rn rc : Nat) (w3 : World), (Builtin.append_ #[25, 25] 25 #[.slice b1 l.length c1, .slice na nn nc]).run Try.prog ww = .ok (.slice ra rn rc) w3 ∧ K ra rn rc w3 := fun w1 n l b1 c1 hn64 hll ho1 hx1 x hxn K hK => by
        subst hxn
        refine (rNum_spec n w1 hn64).mono fun e w2 ⟨a2, c2, he, ho2, x2⟩ => ⟨a2, _, c2, he, ?_⟩
        have := numL_le n
        obtain ⟨a', c', w3, hr3, ho3, x3⟩ := (W.OwnB.no ho1 x2).append (t := 25) (ty := 25) Try.underlying25 (Nat.le_trans hx1.size x2.size) (xc := c2) (W.OwnB.row ho2) (by omega)
        exact ⟨a', _, c', w3, hr3, hK a' c' w3 ho3 ((hx1.trans x2).then x3 fun b hb => .inr hb)⟩
      refine ⟨by omega, by omega, _, by rw [Int.toNat_natCast]; exact hs_cell hr1 hgi (j := 0) rfl, ?_⟩
      rw [wu64 m1 m2]
      generalize hbase : numL hs.length ++ (hs.take t).flatMap hdL = base at *
      refine step w12 hs[t].1.toNat base b0 c0 (by omega) (by omega) ho hx hs[t].1 (by omega) _ fun a2 c2 w2 ho2 x2 => ?_
      refine ⟨by omega, by omega, _, by rw [Int.toNat_natCast]; exact hs_cell (hr.no x2) hgi (j := 1) rfl, ?_⟩
      rw [wu64 m3 m4]
      refine step w2 hs[t].2.1.toNat _ a2 c2 (by omega) (by rw [List.length_append]; omega) ho2 x2 hs[t].2.1 (by omega) _ fun a3 c3 w3 ho3 x3 => ?_
      refine ⟨by omega, by omega, _, by rw [Int.toNat_natCast]; exact hs_cell (hr.no x3) hgi (j := 2) rfl, ?_⟩
      refine step w3 hs[t].2.2.toNat _ a3 c3 (by omega) (by rw [List.length_append, List.length_append]; omega) ho3 x3 hs[t].2.2 (by omega) _ fun a4 c4 w4' ho4 x4' => ?_
      have hnx : base ++ numL hs[t].1.toNat ++ numL hs[t].2.1.toNat ++ numL hs[t].2.2.toNat = numL hs.length ++ (hs.take (t + 1)).flatMap hdL := by
        rw [← hbase, List.take_add_one (l := hs) (i := t), hgi, Option.toList_some, List.flatMap_append]
        show _ = numL hs.length ++ ((hs.take t).flatMap hdL ++ (hdL hs[t] ++ []))
        simp only [hdL, List.append_nil, List.append_assoc]
      rw [hnx] at ho4 ⊢
      exact ⟨k, by omega, t + 1, _, _, by rw [w64 (by omega) (by omega)]; rfl, by omega, ho4, x4'⟩
  · rw [show rightV hs = false by simpa using hright, Bool.not_false, cond_true]
    exact ⟨x4, .inl ⟨rfl, rfl⟩⟩
end
end Go.Proofs.Ytoempemllkebkaa