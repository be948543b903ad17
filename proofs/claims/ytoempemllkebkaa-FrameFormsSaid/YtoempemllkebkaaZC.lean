/- Entries: the reference's bytes, and its entry of bytes. -/
import Derived.Test.YtoempemllkebkaaZB
import Derived.Test.YtoempemllkebkaaProg
import Derived.Test.YtoempemllkebkaaZA
import Derived.KernelRfl
set_option linter.unusedVariables false
set_option linter.unusedSimpArgs false
set_option maxRecDepth 20000
namespace Go.Proofs.Ytoempemllkebkaa
open Go Go.Mx Go.Proofs
open W (OwnB Rd RdR GivesW numR countR doneR zig unzig intR)
def Q0F.M (ag af : Int) (R : RW) (w : World) : Prop :=
 thenW (w.alloc (.cells #[.int .i64 ag, .int .i64 af] 24)) fun ae =>
 thenW (ae.drew) fun ac =>
 ∃ (T5 : Int), ac.cell? ((blk w.heap.size).add 0) = some (.int .i64 T5) ∧
 ∃ (W6 : Int), ac.cell? ((blk w.heap.size).add 1) = some (.int .i64 W6) ∧
 Calls Try.prog 96 #[.int .i64 T5] ac fun ah ad => ∃ (a3 : Option Addr) (a5 a4 : Nat), ah = .returned (.slice a3 a5 a4) ∧
 ad.cell? ((blk w.heap.size).add 1) = some (.int .i64 W6) ∧
 Calls Try.prog 39 #[.int .u64 (IntKind.u64.wrap (if (0 : Int) > W6 then 0 else W6))] ad fun ab aa => ∃ (a0 : Option Addr) (a1 a2 : Nat), ab = .returned (.slice a0 a1 a2) ∧
 ∃ (a6 : Option Addr) (a7 a9 : Nat) (a8 : World), (Builtin.append_ #[25, 25] 25 #[.slice a3 a5 a4, .slice a0 a1 a2]).run Try.prog aa = .ok (.slice a6 a7 a9) a8 ∧
 R (.slice a6 a7 a9) a8

theorem Q0F.ok (a1 a0 : Int) {R : RW} {w : World} (h : Q0F.M a1 a0 R w) : Calls Try.prog 95 #[.agg #[.int .i64 a1, .int .i64 a0]] w fun e w' => ∃ v, e = .returned v ∧ R v w' :=
  Q08 follows (H := []) (args := [.agg #[.int .i64 a1, .int .i64 a0]]) (cast (by kernel_rfl) h)

def Q0F.N (af ad : Int) (R : RW) (w : World) : Prop :=
 ∀ (aa : World) (p5 : Nat), Ext no w aa → Priv w aa [p5] →
 Calls Try.prog 96 #[.int .i64 af] aa fun ag ae => ∃ (a0 : Option Addr) (a3 a2 : Nat), ag = .returned (.slice a0 a3 a2) ∧
 Keep [p5] aa ae ∧
 Calls Try.prog 39 #[.int .u64 (IntKind.u64.wrap (if (0 : Int) > ad then 0 else ad))] ae fun ac ab => ∃ (a5 : Option Addr) (a4 a1 : Nat), ac = .returned (.slice a5 a4 a1) ∧
 ∃ (a9 : Option Addr) (a8 a7 : Nat) (a6 : World), (Builtin.append_ #[25, 25] 25 #[.slice a0 a3 a2, .slice a5 a4 a1]).run Try.prog ab = .ok (.slice a9 a8 a7) a6 ∧
 R (.slice a9 a8 a7) a6

theorem Q0F.up (a7 aa : Int) {R : RW} {w : World} (h : Q0F.N a7 aa R w) : Q0F.M a7 aa R w := by
  unfold Q0F.M
  unfold Q0F.N at h
  refine Q02 fun ak e3 => ?_
  have a0 := Blk.of_new e3
  have ae := ((Ext.refl no w)).size
  have ag := (Ext.refl no w).x_alloc e3
  refine Q02 fun ai e4 => ?_
  have ad := ag.x_drew e4
  have a0 := a0.x_drew e4
  refine ⟨a7, a0.celli 0 rfl rfl, ?_⟩
  refine ⟨aa, a0.celli 1 rfl rfl, ?_⟩
  have h := h ai (w.heap.size) ad (Priv.cons ae a0.lt Priv.nil)
  refine h.mono fun aj al h => ?_
  obtain ⟨a4, a1, a5, he, hk, h⟩ := h
  refine ⟨a4, a1, a5, he, ?_⟩
  have a0 := hk.blk a0 (by simp)
  refine ⟨a0.celli 1 rfl rfl, ?_⟩
  refine h.mono fun af ah h => ?_
  obtain ⟨a3, a6, a2, he, h⟩ := h
  refine ⟨a3, a6, a2, he, ?_⟩
  obtain ⟨ac, ab, a8, a9, hr, h⟩ := h
  refine ⟨ac, ab, a8, a9, hr, ?_⟩
  exact h

theorem Q0F.go (a1 a0 : Int) {R : RW} {w : World} (h : Q0F.N a1 a0 R w) : Calls Try.prog 95 #[.agg #[.int .i64 a1, .int .i64 a0]] w fun e w' => ∃ v, e = .returned v ∧ R v w' := Q0F.ok a1 a0 (Q0F.up a1 a0 h)
def Q0v.M (r1 : Option Addr) (R : RW) (w : World) : Prop :=
 thenW (w.alloc (.cells #[.int .i64 0, .int .i64 0] 24)) fun a8 =>
 Calls Try.prog 86 #[.pointer r1] a8 fun aa a7 => ∃ (a3 : Int), aa = .returned (.int .i64 a3) ∧
 Calls Try.prog 43 #[.pointer r1, .int .i64 7] a7 fun a9 a6 => ∃ (a2 : Int), a9 = .returned (.int .i64 a2) ∧
 Q01 a6 ((blk w.heap.size).add 0) ∧
 thenW (a6.setCell ((blk w.heap.size).add 0) (.int .i64 a3)) fun a5 =>
 Q01 a5 ((blk w.heap.size).add 1) ∧
 thenW (a5.setCell ((blk w.heap.size).add 1) (.int .i64 a2)) fun a4 =>
 ∃ (a0 a1 : Int), cellsAt a4 (blk w.heap.size) [.int .i64 a0, .int .i64 a1] 0 ∧
 R (.agg #[.int .i64 a0, .int .i64 a1]) a4

theorem Q0v.ok (r1 : Option Addr) {R : RW} {w : World} (h : Q0v.M r1 R w) : Calls Try.prog 85 #[.pointer r1] w fun e w' => ∃ v, e = .returned v ∧ R v w' :=
  Q08 follows (H := []) (args := [.pointer r1]) (cast (by kernel_rfl) h)

def Q0v.N (r1 : Option Addr) (R : RW) (w : World) : Prop :=
 ∀ (a3 : World) (p3 : Nat), Ext no w a3 → Priv w a3 [p3] →
 Calls Try.prog 86 #[.pointer r1] a3 fun a6 a4 => ∃ (a2 : Int), a6 = .returned (.int .i64 a2) ∧
 Keep [p3] a3 a4 ∧
 Calls Try.prog 43 #[.pointer r1, .int .i64 7] a4 fun a7 a5 => ∃ (a0 : Int), a7 = .returned (.int .i64 a0) ∧
 Keep [p3] a4 a5 ∧
 ∀ (a1 : World), Ext (fun b => b = p3) a5 a1 →
 R (.agg #[.int .i64 a2, .int .i64 a0]) a1

theorem Q0v.up (r1 : Option Addr) {R : RW} {w : World} (h : Q0v.N r1 R w) : Q0v.M r1 R w := by
  unfold Q0v.M
  unfold Q0v.N at h
  refine Q02 fun aa e2 => ?_
  have a0 := Blk.of_new e2
  have ad := ((Ext.refl no w)).size
  have ac := (Ext.refl no w).x_alloc e2
  have h := h aa (w.heap.size) ac (Priv.cons ad a0.lt Priv.nil)
  refine h.mono fun af ae h => ?_
  obtain ⟨a2, he, hk, h⟩ := h
  refine ⟨a2, he, ?_⟩
  have a0 := hk.blk a0 (by simp)
  refine h.mono fun ag a4 h => ?_
  obtain ⟨a1, he, hk, h⟩ := h
  refine ⟨a1, he, ?_⟩
  have a0 := hk.blk a0 (by simp)
  have a3 : Ext (fun b => b = w.heap.size) a4 a4 := ((Ext.refl no a4)).none
  refine ⟨a0.cani 0 rfl rfl, Q02 fun ab a9 => ?_⟩
  have a7 := a3.x_set (q := w.heap.size) (i := 0) rfl (.inl rfl) a9
  have a0 := a0.seti 0 rfl a9
  refine ⟨a0.cani 1 rfl rfl, Q02 fun a6 a8 => ?_⟩
  have a5 := a7.x_set (q := w.heap.size) (i := 1) rfl (.inl rfl) a8
  have a0 := a0.seti 1 rfl a8
  refine ⟨a2, a1, ⟨a0.celli 0 rfl rfl, a0.celli 1 rfl rfl, trivial⟩, ?_⟩
  have h := h a6 a5
  exact h

theorem Q0v.go (r1 : Option Addr) {R : RW} {w : World} (h : Q0v.N r1 R w) : Calls Try.prog 85 #[.pointer r1] w fun e w' => ∃ v, e = .returned v ∧ R v w' := Q0v.ok r1 (Q0v.up r1 h)
theorem Q0v.run (r1 : Option Addr) {V : Value} {Q : World → Prop} {w : World} (h : Q0v.N r1 (fun v w' => v = V ∧ Q w') w) : Calls Try.prog 85 #[.pointer r1] w (Ret V Q) := (Q0v.go r1 h).mono fun e w' ⟨v, he, hv, hq⟩ => ⟨by rw [he, hv], hq⟩

abbrev Q0p.J1 (ax : Addr) (R : RW) (b3 : World) : Prop :=
 ∃ (a3 : Int), b3.cell? (ax.add 0) = some (.int .i64 a3) ∧
 Calls Try.prog 39 #[.int .u64 (IntKind.u64.wrap a3)] b3 fun bn b8 => ∃ (ad : Option Addr) (a9 aa : Nat), bn = .returned (.slice ad a9 aa) ∧
 ∃ (a6 : Int), b8.cell? (ax.add 1) = some (.int .i64 a6) ∧
 Calls Try.prog 39 #[.int .u64 (IntKind.u64.wrap a6)] b8 fun bi bo => ∃ (ae : Option Addr) (am ak : Nat), bi = .returned (.slice ae am ak) ∧
 ∃ (b2 : Option Addr) (bf bb : Nat) (au : World), (Builtin.append_ #[25, 25] 25 #[.slice ad a9 aa, .slice ae am ak]).run Try.prog bo = .ok (.slice b2 bf bb) au ∧
 ∃ (ao : Int), au.cell? (ax.add 2) = some (.int .u64 ao) ∧
 Calls Try.prog 39 #[.int .u64 ao] au fun bq bp => ∃ (af : Option Addr) (ag aj : Nat), bq = .returned (.slice af ag aj) ∧
 ∃ (bc : Option Addr) (b6 b9 : Nat) (aw : World), (Builtin.append_ #[25, 25] 25 #[.slice b2 bf bb, .slice af ag aj]).run Try.prog bp = .ok (.slice bc b6 b9) aw ∧
 ∃ (ap aq : Int), cellsAt aw (ax.add 3) [.int .i64 ap, .int .i64 aq] 0 ∧
 Calls Try.prog 95 #[.agg #[.int .i64 ap, .int .i64 aq]] aw fun bj bh => ∃ (ai : Option Addr) (ac ab : Nat), bj = .returned (.slice ai ac ab) ∧
 ∃ (b7 : Option Addr) (ay bd : Nat) (av : World), (Builtin.append_ #[25, 25] 25 #[.slice bc b6 b9, .slice ai ac ab]).run Try.prog bh = .ok (.slice b7 ay bd) av ∧
 ∃ (a5 : Int), av.cell? (ax.add 5) = some (.int .i64 a5) ∧
 Calls Try.prog 96 #[.int .i64 a5] av fun bk bl => ∃ (ah : Option Addr) (al an : Nat), bk = .returned (.slice ah al an) ∧
 ∃ (az : Option Addr) (be b4 : Nat) (ar : World), (Builtin.append_ #[25, 25] 25 #[.slice b7 ay bd, .slice ah al an]).run Try.prog bl = .ok (.slice az be b4) ar ∧
 ∃ (a7 : Option Addr) (a4 a8 : Nat), ar.cell? (ax.add 6) = some (.slice a7 a4 a8) ∧
 Calls Try.prog 42 #[.slice a7 a4 a8] ar fun bm bg => ∃ (a1 : Option Addr) (a2 a0 : Nat), bm = .returned (.slice a1 a2 a0) ∧
 ∃ (ba : Option Addr) (b0 b5 : Nat) (b1 : World), (Builtin.append_ #[25, 25] 25 #[.slice az be b4, .slice a1 a2 a0]).run Try.prog bg = .ok (.slice ba b0 b5) b1 ∧
 R (.tuple #[.slice ba b0 b5, .int .i64 0]) b1

def Q0p.M (a8 ae ah ak aj ad : Int) (af : Option Addr) (ac ag : Nat) (ai : Int) (R : RW) (w : World) : Prop :=
 thenW (w.alloc (.cells #[.int .i64 a8, .int .i64 ae, .int .u64 ah, .int .i64 ak, .int .i64 aj, .int .i64 ad, .slice af ac ag, .int .u64 ai] 27)) fun an =>
 ∃ (a0 a5 a7 a9 aa a2 : Int) (a4 : Option Addr) (a3 a1 : Nat) (ab : Int), cellsAt an (blk w.heap.size) [.int .i64 a0, .int .i64 a5, .int .u64 a7, .int .i64 a9, .int .i64 aa, .int .i64 a2, .slice a4 a3 a1, .int .u64 ab] 0 ∧
 Calls Try.prog 49 #[.agg #[.int .i64 a0, .int .i64 a5, .int .u64 a7, .int .i64 a9, .int .i64 aa, .int .i64 a2, .slice a4 a3 a1, .int .u64 ab]] an fun am al => ∃ (a6 : Bool), am = .returned (.bool a6) ∧
 bif !a6 then (
 R (.tuple #[.slice none 0 0, .int .i64 1]) al) else (
 Q0p.J1 (blk w.heap.size) R al)

theorem Q0p.ok (a0 a4 a6 a7 a8 a1 : Int) (a3 : Option Addr) (a2 a5 : Nat) (a9 : Int) {R : RW} {w : World} (h : Q0p.M a0 a4 a6 a7 a8 a1 a3 a2 a5 a9 R w) : Calls Try.prog 84 #[.agg #[.int .i64 a0, .int .i64 a4, .int .u64 a6, .int .i64 a7, .int .i64 a8, .int .i64 a1, .slice a3 a2 a5, .int .u64 a9]] w fun e w' => ∃ v, e = .returned v ∧ R v w' :=
  Q08 follows (H := []) (args := [.agg #[.int .i64 a0, .int .i64 a4, .int .u64 a6, .int .i64 a7, .int .i64 a8, .int .i64 a1, .slice a3 a2 a5, .int .u64 a9]]) (cast (by kernel_rfl) h)

def Q0p.N (a0 a3 a9 al ag a2 : Int) (a4 : Option Addr) (a1 a5 : Nat) (ay : Int) (R : RW) (w : World) : Prop :=
 ((Q03.F a0 a3 a9 al ag a2 a4 a1 a5 ay) = false →
 ∀ (aa : World), Ext no w aa →
 R (.tuple #[.slice none 0 0, .int .i64 1]) aa) ∧
 ((Q03.F a0 a3 a9 al ag a2 a4 a1 a5 ay) = true →
 ∀ (aa : World) (au : Nat), Ext no w aa → Priv w aa [au] →
 Calls Try.prog 39 #[.int .u64 (IntKind.u64.wrap a0)] aa fun br b2 => ∃ (af : Option Addr) (ad ar : Nat), br = .returned (.slice af ad ar) ∧
 Keep [au] aa b2 ∧
 Calls Try.prog 39 #[.int .u64 (IntKind.u64.wrap a3)] b2 fun bm b4 => ∃ (ab : Option Addr) (ac aq : Nat), bm = .returned (.slice ab ac aq) ∧
 Keep [au] b2 b4 ∧
 ∃ (b6 : Option Addr) (bh bd : Nat) (av : World), (Builtin.append_ #[25, 25] 25 #[.slice af ad ar, .slice ab ac aq]).run Try.prog b4 = .ok (.slice b6 bh bd) av ∧
 Keep [au] b4 av ∧
 Calls Try.prog 39 #[.int .u64 a9] av fun bl az => ∃ (ai : Option Addr) (ae ah : Nat), bl = .returned (.slice ai ae ah) ∧
 Keep [au] av az ∧
 ∃ (b5 : Option Addr) (be bf : Nat) (ax : World), (Builtin.append_ #[25, 25] 25 #[.slice b6 bh bd, .slice ai ae ah]).run Try.prog az = .ok (.slice b5 be bf) ax ∧
 Keep [au] az ax ∧
 Calls Try.prog 95 #[.agg #[.int .i64 al, .int .i64 ag]] ax fun bq b3 => ∃ (aj : Option Addr) (an ap : Nat), bq = .returned (.slice aj an ap) ∧
 Keep [au] ax b3 ∧
 ∃ (bb : Option Addr) (bj bi : Nat) (aw : World), (Builtin.append_ #[25, 25] 25 #[.slice b5 be bf, .slice aj an ap]).run Try.prog b3 = .ok (.slice bb bj bi) aw ∧
 Keep [au] b3 aw ∧
 Calls Try.prog 96 #[.int .i64 a2] aw fun bo b1 => ∃ (ao : Option Addr) (am ak : Nat), bo = .returned (.slice ao am ak) ∧
 Keep [au] aw b1 ∧
 ∃ (bk : Option Addr) (bg b9 : Nat) (b0 : World), (Builtin.append_ #[25, 25] 25 #[.slice bb bj bi, .slice ao am ak]).run Try.prog b1 = .ok (.slice bk bg b9) b0 ∧
 Keep [au] b1 b0 ∧
 Calls Try.prog 42 #[.slice a4 a1 a5] b0 fun bn bp => ∃ (a6 : Option Addr) (a8 a7 : Nat), bn = .returned (.slice a6 a8 a7) ∧
 ∃ (bc : Option Addr) (ba b7 : Nat) (b8 : World), (Builtin.append_ #[25, 25] 25 #[.slice bk bg b9, .slice a6 a8 a7]).run Try.prog bp = .ok (.slice bc ba b7) b8 ∧
 R (.tuple #[.slice bc ba b7, .int .i64 0]) b8)

theorem Q0p.up (a0 a4 a7 a9 a8 a3 : Int) (a5 : Option Addr) (a2 a6 : Nat) (aa : Int) {R : RW} {w : World} (h : Q0p.N a0 a4 a7 a9 a8 a3 a5 a2 a6 aa R w) : Q0p.M a0 a4 a7 a9 a8 a3 a5 a2 a6 aa R w := by
  unfold Q0p.M
  unfold Q0p.N at h
  refine Q02 fun bv e9 => ?_
  have a1 := Blk.of_new e9
  have bl := ((Ext.refl no w)).size
  have bp := (Ext.refl no w).x_alloc e9
  refine ⟨a0, a4, a7, a9, a8, a3, a5, a2, a6, aa, ⟨a1.celli 0 rfl rfl, a1.celli 1 rfl rfl, a1.celli 2 rfl rfl, a1.celli 3 rfl rfl, a1.celli 4 rfl rfl, a1.celli 5 rfl rfl, a1.celli 6 rfl rfl, a1.celli 7 rfl rfl, trivial⟩, ?_⟩
  refine (Q03.pure a0 a4 a7 a9 a8 a3 a5 a2 a6 aa).mono fun ee ww10 ⟨he, hxx⟩ => ⟨(Q03.F a0 a4 a7 a9 a8 a3 a5 a2 a6 aa), he, ?_⟩
  have av := bp.trans hxx
  have a1 := a1.ext hxx id
  refine bif_of (fun b8 => ?_) (fun b8 => ?_)
  ·have h := h.1 (not_t b8)
   have h := h ww10 av
   exact h
  have h := h.2 (not_f b8)
  unfold Q0p.J1
  refine ⟨a0, a1.celli 0 rfl rfl, ?_⟩
  have h := h ww10 (w.heap.size) av (Priv.cons bl a1.lt Priv.nil)
  refine h.mono fun bu br h => ?_
  obtain ⟨ai, ag, ar, he, hk, h⟩ := h
  refine ⟨ai, ag, ar, he, ?_⟩
  have a1 := hk.blk a1 (by simp)
  refine ⟨a4, a1.celli 1 rfl rfl, ?_⟩
  refine h.mono fun bi bt h => ?_
  obtain ⟨ae, af, au, he, hk, h⟩ := h
  refine ⟨ae, af, au, he, ?_⟩
  have a1 := hk.blk a1 (by simp)
  obtain ⟨ax, bc, b6, b3, hr, hk, h⟩ := h
  refine ⟨ax, bc, b6, b3, hr, ?_⟩
  have a1 := hk.blk a1 (by simp)
  refine ⟨a7, a1.celli 2 rfl rfl, ?_⟩
  refine h.mono fun bh bk h => ?_
  obtain ⟨ak, ah, aj, he, hk, h⟩ := h
  refine ⟨ak, ah, aj, he, ?_⟩
  have a1 := hk.blk a1 (by simp)
  obtain ⟨aw, b7, b9, be, hr, hk, h⟩ := h
  refine ⟨aw, b7, b9, be, hr, ?_⟩
  have a1 := hk.blk a1 (by simp)
  refine ⟨a9, a8, ⟨a1.celli 3 rfl rfl, a1.celli 4 rfl rfl, trivial⟩, ?_⟩
  refine h.mono fun bq bs h => ?_
  obtain ⟨al, ao, aq, he, hk, h⟩ := h
  refine ⟨al, ao, aq, he, ?_⟩
  have a1 := hk.blk a1 (by simp)
  obtain ⟨b4, bf, bd, ba, hr, hk, h⟩ := h
  refine ⟨b4, bf, bd, ba, hr, ?_⟩
  have a1 := hk.blk a1 (by simp)
  refine ⟨a3, a1.celli 5 rfl rfl, ?_⟩
  refine h.mono fun bm bo h => ?_
  obtain ⟨ap, an, am, he, hk, h⟩ := h
  refine ⟨ap, an, am, he, ?_⟩
  have a1 := hk.blk a1 (by simp)
  obtain ⟨bg, bb, b1, az, hr, hk, h⟩ := h
  refine ⟨bg, bb, b1, az, hr, ?_⟩
  have a1 := hk.blk a1 (by simp)
  refine ⟨a5, a2, a6, a1.celli 6 rfl rfl, ?_⟩
  refine h.mono fun bj bn h => ?_
  obtain ⟨ab, ad, ac, he, h⟩ := h
  refine ⟨ab, ad, ac, he, ?_⟩
  obtain ⟨b5, b2, ay, b0, hr, h⟩ := h
  refine ⟨b5, b2, ay, b0, hr, ?_⟩
  exact h

theorem Q0p.go (a0 a4 a6 a7 a8 a1 : Int) (a3 : Option Addr) (a2 a5 : Nat) (a9 : Int) {R : RW} {w : World} (h : Q0p.N a0 a4 a6 a7 a8 a1 a3 a2 a5 a9 R w) : Calls Try.prog 84 #[.agg #[.int .i64 a0, .int .i64 a4, .int .u64 a6, .int .i64 a7, .int .i64 a8, .int .i64 a1, .slice a3 a2 a5, .int .u64 a9]] w fun e w' => ∃ v, e = .returned v ∧ R v w' := Q0p.ok a0 a4 a6 a7 a8 a1 a3 a2 a5 a9 (Q0p.up a0 a4 a6 a7 a8 a1 a3 a2 a5 a9 h)
abbrev Q0m.J1 (ac : Option Addr) (ad ab : Nat) (ae : Addr) (R : RW) (a8 : World) : Prop :=
 ∃ (a3 : Int), a8.cell? (ae.add 7) = some (.int .u64 a3) ∧
 Calls Try.prog 39 #[.int .u64 a3] a8 fun aa a9 => ∃ (a0 : Option Addr) (a2 a1 : Nat), aa = .returned (.slice a0 a2 a1) ∧
 ∃ (a5 : Option Addr) (a4 a6 : Nat) (a7 : World), (Builtin.append_ #[25, 25] 25 #[.slice ac ad ab, .slice a0 a2 a1]).run Try.prog a9 = .ok (.slice a5 a4 a6) a7 ∧
 R (.tuple #[.slice a5 a4 a6, .int .i64 0]) a7

def Q0m.M (ab ah ak ao an ag : Int) (ai : Option Addr) (af aj : Nat) (al : Int) (R : RW) (w : World) : Prop :=
 thenW (w.alloc (.cells #[.int .i64 ab, .int .i64 ah, .int .u64 ak, .int .i64 ao, .int .i64 an, .int .i64 ag, .slice ai af aj, .int .u64 al] 27)) fun aq =>
 ∃ (a0 a5 aa ac ad a2 : Int) (a4 : Option Addr) (a3 a1 : Nat) (ae : Int), cellsAt aq (blk w.heap.size) [.int .i64 a0, .int .i64 a5, .int .u64 aa, .int .i64 ac, .int .i64 ad, .int .i64 a2, .slice a4 a3 a1, .int .u64 ae] 0 ∧
 Calls Try.prog 84 #[.agg #[.int .i64 a0, .int .i64 a5, .int .u64 aa, .int .i64 ac, .int .i64 ad, .int .i64 a2, .slice a4 a3 a1, .int .u64 ae]] aq fun ap am => ∃ (a8 : Option Addr) (a7 a9 : Nat) (a6 : Int), ap = .returned (.tuple #[.slice a8 a7 a9, .int .i64 a6]) ∧
 bif a6 != 0 then (
 R (.tuple #[.slice none 0 0, .int .i64 a6]) am) else (
 Q0m.J1 a8 a7 a9 (blk w.heap.size) R am)

theorem Q0m.ok (a0 a4 a6 a7 a8 a1 : Int) (a3 : Option Addr) (a2 a5 : Nat) (a9 : Int) {R : RW} {w : World} (h : Q0m.M a0 a4 a6 a7 a8 a1 a3 a2 a5 a9 R w) : Calls Try.prog 64 #[.agg #[.int .i64 a0, .int .i64 a4, .int .u64 a6, .int .i64 a7, .int .i64 a8, .int .i64 a1, .slice a3 a2 a5, .int .u64 a9]] w fun e w' => ∃ v, e = .returned v ∧ R v w' :=
  Q08 follows (H := []) (args := [.agg #[.int .i64 a0, .int .i64 a4, .int .u64 a6, .int .i64 a7, .int .i64 a8, .int .i64 a1, .slice a3 a2 a5, .int .u64 a9]]) (cast (by kernel_rfl) h)

def Q0m.N (a4 aa ae ak ah a9 : Int) (ab : Option Addr) (a8 ac : Nat) (ad : Int) (R : RW) (w : World) : Prop :=
 ∀ (am : World) (aq : Nat), Ext no w am → Priv w am [aq] →
 Calls Try.prog 84 #[.agg #[.int .i64 a4, .int .i64 aa, .int .u64 ae, .int .i64 ak, .int .i64 ah, .int .i64 a9, .slice ab a8 ac, .int .u64 ad]] am fun ap af => ∃ (a3 : Option Addr) (a1 a2 : Nat) (a0 : Int), ap = .returned (.tuple #[.slice a3 a1 a2, .int .i64 a0]) ∧
 Keep [aq] am af ∧
 (a0 ≠ 0 →
 R (.tuple #[.slice none 0 0, .int .i64 a0]) af) ∧
 (a0 = 0 →
 Calls Try.prog 39 #[.int .u64 ad] af fun ao an => ∃ (a5 : Option Addr) (a7 a6 : Nat), ao = .returned (.slice a5 a7 a6) ∧
 ∃ (ag : Option Addr) (aj ai : Nat) (al : World), (Builtin.append_ #[25, 25] 25 #[.slice a3 a1 a2, .slice a5 a7 a6]).run Try.prog an = .ok (.slice ag aj ai) al ∧
 R (.tuple #[.slice ag aj ai, .int .i64 0]) al)

theorem Q0m.up (a0 a3 a6 aa a9 a2 : Int) (a4 : Option Addr) (a1 a5 : Nat) (a7 : Int) {R : RW} {w : World} (h : Q0m.N a0 a3 a6 aa a9 a2 a4 a1 a5 a7 R w) : Q0m.M a0 a3 a6 aa a9 a2 a4 a1 a5 a7 R w := by
  unfold Q0m.M
  unfold Q0m.N at h
  refine Q02 fun an e9 => ?_
  have a8 := Blk.of_new e9
  have ao := ((Ext.refl no w)).size
  have ar := (Ext.refl no w).x_alloc e9
  refine ⟨a0, a3, a6, aa, a9, a2, a4, a1, a5, a7, ⟨a8.celli 0 rfl rfl, a8.celli 1 rfl rfl, a8.celli 2 rfl rfl, a8.celli 3 rfl rfl, a8.celli 4 rfl rfl, a8.celli 5 rfl rfl, a8.celli 6 rfl rfl, a8.celli 7 rfl rfl, trivial⟩, ?_⟩
  have h := h an (w.heap.size) ar (Priv.cons ao a8.lt Priv.nil)
  refine h.mono fun au av h => ?_
  obtain ⟨ad, ab, ac, ag, he, hk, h⟩ := h
  refine ⟨ad, ab, ac, ag, he, ?_⟩
  have a8 := hk.blk a8 (by simp)
  refine bif_of (fun ai => ?_) (fun ai => ?_)
  ·have h := h.1 (bne_t ai)
   exact h
  have h := h.2 (bne_f ai)
  unfold Q0m.J1
  refine ⟨a7, a8.celli 7 rfl rfl, ?_⟩
  refine h.mono fun aq ap h => ?_
  obtain ⟨ae, ah, af, he, h⟩ := h
  refine ⟨ae, ah, af, he, ?_⟩
  obtain ⟨aj, al, ak, am, hr, h⟩ := h
  refine ⟨aj, al, ak, am, hr, ?_⟩
  exact h

theorem Q0m.go (a0 a4 a6 a7 a8 a1 : Int) (a3 : Option Addr) (a2 a5 : Nat) (a9 : Int) {R : RW} {w : World} (h : Q0m.N a0 a4 a6 a7 a8 a1 a3 a2 a5 a9 R w) : Calls Try.prog 64 #[.agg #[.int .i64 a0, .int .i64 a4, .int .u64 a6, .int .i64 a7, .int .i64 a8, .int .i64 a1, .slice a3 a2 a5, .int .u64 a9]] w fun e w' => ∃ v, e = .returned v ∧ R v w' := Q0m.ok a0 a4 a6 a7 a8 a1 a3 a2 a5 a9 (Q0m.up a0 a4 a6 a7 a8 a1 a3 a2 a5 a9 h)
abbrev Q0h.J1 (ar ac : Addr) (b7 : Option Addr) (R : RW) (b4 : World) : Prop :=
 Calls Try.prog 44 #[.pointer b7, .int .i64 1100] b4 fun b5 b0 => ∃ (af : Option Addr) (a9 ai : Nat), b5 = .returned (.slice af a9 ai) ∧
 Q01 b0 ((ar.add 6).add 0) ∧
 thenW (b0.setCell ((ar.add 6).add 0) (.slice af a9 ai)) fun b3 =>
 Calls Try.prog 45 #[.pointer b7] b3 fun b6 aq => ∃ (ao : Int), b6 = .returned (.int .u64 ao) ∧
 Q01 aq ((ar.add 7).add 0) ∧
 thenW (aq.setCell ((ar.add 7).add 0) (.int .u64 ao)) fun ap =>
 ∃ (a8 ah ak an al ae : Int) (ag : Option Addr) (aa ab : Nat) (am : Int), cellsAt ap ar [.int .i64 a8, .int .i64 ah, .int .u64 ak, .int .i64 an, .int .i64 al, .int .i64 ae, .slice ag aa ab, .int .u64 am] 0 ∧
 Q01 ap (ac.add 0) ∧
 thenW (ap.setCell (ac.add 0) (.int .i64 a8)) fun aw =>
 Q01 aw (ac.add 1) ∧
 thenW (aw.setCell (ac.add 1) (.int .i64 ah)) fun ay =>
 Q01 ay (ac.add 2) ∧
 thenW (ay.setCell (ac.add 2) (.int .u64 ak)) fun av =>
 Q01 av (ac.add 3) ∧
 thenW (av.setCell (ac.add 3) (.int .i64 an)) fun az =>
 Q01 az (ac.add 4) ∧
 thenW (az.setCell (ac.add 4) (.int .i64 al)) fun au =>
 Q01 au (ac.add 5) ∧
 thenW (au.setCell (ac.add 5) (.int .i64 ae)) fun b1 =>
 Q01 b1 (ac.add 6) ∧
 thenW (b1.setCell (ac.add 6) (.slice ag aa ab)) fun b2 =>
 Q01 b2 (ac.add 7) ∧
 thenW (b2.setCell (ac.add 7) (.int .u64 am)) fun ax =>
 ∃ (a0 a4 a7 ad aj a2 : Int) (a1 : Option Addr) (a5 a3 : Nat) (a6 : Int), cellsAt ax ac [.int .i64 a0, .int .i64 a4, .int .u64 a7, .int .i64 ad, .int .i64 aj, .int .i64 a2, .slice a1 a5 a3, .int .u64 a6] 0 ∧
 R (.agg #[.int .i64 a0, .int .i64 a4, .int .u64 a7, .int .i64 ad, .int .i64 aj, .int .i64 a2, .slice a1 a5 a3, .int .u64 a6]) ax

def Q0h.M (r1 : Option Addr) (R : RW) (w : World) : Prop :=
 thenW (w.alloc (.cells #[.int .i64 0, .int .i64 0, .int .u64 0, .int .i64 0, .int .i64 0, .int .i64 0, .slice none 0 0, .int .u64 0] 27)) fun a0 =>
 thenW (a0.alloc (.cells #[.int .i64 0, .int .i64 0, .int .u64 0, .int .i64 0, .int .i64 0, .int .i64 0, .slice none 0 0, .int .u64 0] 27)) fun ar =>
 Q01 ar ((blk a0.heap.size).add 0) ∧
 thenW (ar.setCell ((blk a0.heap.size).add 0) (.int .i64 0)) fun az =>
 Q01 az ((blk a0.heap.size).add 1) ∧
 thenW (az.setCell ((blk a0.heap.size).add 1) (.int .i64 0)) fun au =>
 Q01 au ((blk a0.heap.size).add 2) ∧
 thenW (au.setCell ((blk a0.heap.size).add 2) (.int .u64 0)) fun aq =>
 Q01 aq ((blk a0.heap.size).add 3) ∧
 thenW (aq.setCell ((blk a0.heap.size).add 3) (.int .i64 0)) fun ax =>
 Q01 ax ((blk a0.heap.size).add 4) ∧
 thenW (ax.setCell ((blk a0.heap.size).add 4) (.int .i64 0)) fun aw =>
 Q01 aw ((blk a0.heap.size).add 5) ∧
 thenW (aw.setCell ((blk a0.heap.size).add 5) (.int .i64 0)) fun ap =>
 Q01 ap ((blk a0.heap.size).add 6) ∧
 thenW (ap.setCell ((blk a0.heap.size).add 6) (.slice none 0 0)) fun a6 =>
 Q01 a6 ((blk a0.heap.size).add 7) ∧
 thenW (a6.setCell ((blk a0.heap.size).add 7) (.int .u64 0)) fun ao =>
 Calls Try.prog 43 #[.pointer r1, .int .i64 7] ao fun al ad => ∃ (a3 : Int), al = .returned (.int .i64 a3) ∧
 Q01 ad (((blk a0.heap.size).add 0).add 0) ∧
 thenW (ad.setCell (((blk a0.heap.size).add 0).add 0) (.int .i64 a3)) fun aj =>
 Calls Try.prog 43 #[.pointer r1, .int .i64 199] aj fun ah a7 => ∃ (a1 : Int), ah = .returned (.int .i64 a1) ∧
 Q01 a7 (((blk a0.heap.size).add 1).add 0) ∧
 thenW (a7.setCell (((blk a0.heap.size).add 1).add 0) (.int .i64 a1)) fun an =>
 Calls Try.prog 45 #[.pointer r1] an fun ae ab => ∃ (a5 : Int), ae = .returned (.int .u64 a5) ∧
 Q01 ab (((blk a0.heap.size).add 2).add 0) ∧
 thenW (ab.setCell (((blk a0.heap.size).add 2).add 0) (.int .u64 a5)) fun ag =>
 Calls Try.prog 85 #[.pointer r1] ag fun af a9 => ∃ (ay av : Int), af = .returned (.agg #[.int .i64 ay, .int .i64 av]) ∧
 Q01 a9 (((blk a0.heap.size).add 3).add 0) ∧
 thenW (a9.setCell (((blk a0.heap.size).add 3).add 0) (.int .i64 ay)) fun ac =>
 Q01 ac (((blk a0.heap.size).add 3).add 1) ∧
 thenW (ac.setCell (((blk a0.heap.size).add 3).add 1) (.int .i64 av)) fun am =>
 Calls Try.prog 86 #[.pointer r1] am fun ak a8 => ∃ (a2 : Int), ak = .returned (.int .i64 a2) ∧
 Q01 a8 (((blk a0.heap.size).add 5).add 0) ∧
 thenW (a8.setCell (((blk a0.heap.size).add 5).add 0) (.int .i64 a2)) fun a4 =>
 bif decide (a2 < (-1)) then (
 Q01 a4 (((blk a0.heap.size).add 5).add 0) ∧
 thenW (a4.setCell (((blk a0.heap.size).add 5).add 0) (.int .i64 (-9))) fun ai =>
 Q0h.J1 (blk a0.heap.size) (blk w.heap.size) r1 R ai) else (
 bif decide (a2 > 20) then (
 Q01 a4 (((blk a0.heap.size).add 5).add 0) ∧
 thenW (a4.setCell (((blk a0.heap.size).add 5).add 0) (.int .i64 (-9))) fun aa =>
 Q0h.J1 (blk a0.heap.size) (blk w.heap.size) r1 R aa) else (
 Q0h.J1 (blk a0.heap.size) (blk w.heap.size) r1 R a4))

theorem Q0h.ok (r1 : Option Addr) {R : RW} {w : World} (h : Q0h.M r1 R w) : Calls Try.prog 66 #[.pointer r1] w fun e w' => ∃ v, e = .returned v ∧ R v w' :=
  Q08 follows (H := []) (args := [.pointer r1]) (cast (by kernel_rfl) h)

def Q0h.N (r1 : Option Addr) (R : RW) (w : World) : Prop :=
 ∀ (ag : World) (ad a0 : Nat), Ext no w ag → Priv w ag [ad, a0] →
 Calls Try.prog 43 #[.pointer r1, .int .i64 7] ag fun bk b3 => ∃ (a1 : Int), bk = .returned (.int .i64 a1) ∧
 Keep [ad, a0] ag b3 ∧
 ∀ (ar : World), Ext (fun b => b = a0) b3 ar →
 Calls Try.prog 43 #[.pointer r1, .int .i64 199] ar fun bg b6 => ∃ (a2 : Int), bg = .returned (.int .i64 a2) ∧
 Keep [ad, a0] ar b6 ∧
 ∀ (am : World), Ext (fun b => b = a0) b6 am →
 Calls Try.prog 45 #[.pointer r1] am fun bb ay => ∃ (ae : Int), bb = .returned (.int .u64 ae) ∧
 Keep [ad, a0] am ay ∧
 ∀ (ap : World), Ext (fun b => b = a0) ay ap →
 Calls Try.prog 85 #[.pointer r1] ap fun bh b7 => ∃ (ba b9 : Int), bh = .returned (.agg #[.int .i64 ba, .int .i64 b9]) ∧
 Keep [ad, a0] ap b7 ∧
 ∀ (aq : World), Ext (fun b => b = a0) b7 aq →
 Calls Try.prog 86 #[.pointer r1] aq fun be af => ∃ (a3 : Int), be = .returned (.int .i64 a3) ∧
 Keep [ad, a0] aq af ∧
 (a3 < (-1) →
 ∀ (an : World), Ext (fun b => b = a0) af an →
 Calls Try.prog 44 #[.pointer r1, .int .i64 1100] an fun bf b5 => ∃ (aa : Option Addr) (a7 a6 : Nat), bf = .returned (.slice aa a7 a6) ∧
 Keep [ad, a0] an b5 ∧
 ∀ (av : World), Ext (fun b => b = a0) b5 av →
 Calls Try.prog 45 #[.pointer r1] av fun bi ax => ∃ (ai : Int), bi = .returned (.int .u64 ai) ∧
 Keep [ad, a0] av ax ∧
 ∀ (b4 : World), Ext (fun b => b = ad ∨ b = a0) ax b4 →
 R (.agg #[.int .i64 a1, .int .i64 a2, .int .u64 ae, .int .i64 ba, .int .i64 b9, .int .i64 (-9), .slice aa a7 a6, .int .u64 ai]) b4) ∧
 (((-1) : Int) ≤ a3 →
 (a3 > 20 →
 ∀ (ao : World), Ext (fun b => b = a0) af ao →
 Calls Try.prog 44 #[.pointer r1, .int .i64 1100] ao fun bj b8 => ∃ (a5 : Option Addr) (ac ab : Nat), bj = .returned (.slice a5 ac ab) ∧
 Keep [ad, a0] ao b8 ∧
 ∀ (au : World), Ext (fun b => b = a0) b8 au →
 Calls Try.prog 45 #[.pointer r1] au fun bc az => ∃ (ah : Int), bc = .returned (.int .u64 ah) ∧
 Keep [ad, a0] au az ∧
 ∀ (b2 : World), Ext (fun b => b = ad ∨ b = a0) az b2 →
 R (.agg #[.int .i64 a1, .int .i64 a2, .int .u64 ae, .int .i64 ba, .int .i64 b9, .int .i64 (-9), .slice a5 ac ab, .int .u64 ah]) b2) ∧
 (a3 ≤ 20 →
 ∀ (al : World), Ext (fun b => b = a0) af al →
 Calls Try.prog 44 #[.pointer r1, .int .i64 1100] al fun bd b0 => ∃ (a9 : Option Addr) (a8 a4 : Nat), bd = .returned (.slice a9 a8 a4) ∧
 Keep [ad, a0] al b0 ∧
 ∀ (ak : World), Ext (fun b => b = a0) b0 ak →
 Calls Try.prog 45 #[.pointer r1] ak fun bl aw => ∃ (aj : Int), bl = .returned (.int .u64 aj) ∧
 Keep [ad, a0] ak aw ∧
 ∀ (b1 : World), Ext (fun b => b = ad ∨ b = a0) aw b1 →
 R (.agg #[.int .i64 a1, .int .i64 a2, .int .u64 ae, .int .i64 ba, .int .i64 b9, .int .i64 a3, .slice a9 a8 a4, .int .u64 aj]) b1))

theorem Q0h.up (r1 : Option Addr) {R : RW} {w : World} (h : Q0h.N r1 R w) : Q0h.M r1 R w := by
  unfold Q0h.M
  unfold Q0h.N at h
  refine Q02 fun a5 e2 => ?_
  have a2 := Blk.of_new e2
  have dt := ((Ext.refl no w)).size
  have df := (Ext.refl no w).x_alloc e2
  refine Q02 fun el e3 => ?_
  have a3 := Blk.of_new e3
  have ak := (df).size
  have a6 := Nat.ne_of_lt a2.lt
  have a2 := a2.x_alloc e3
  have ek := df.x_alloc e3
  refine ⟨a3.cani 0 rfl rfl, Q02 fun ec e4 => ?_⟩
  have dx := ek.x_set (q := a5.heap.size) (i := 0) rfl (.inr ak) e4
  have a2 := a2.oth (q := a5.heap.size) (i := 0) rfl a6 e4
  have a3 : Blk ec a5.heap.size 27 [.int .i64 0, .int .i64 0, .int .u64 0, .int .i64 0, .int .i64 0, .int .i64 0, .slice none 0 0, .int .u64 0] := a3.seti 0 rfl e4
  refine ⟨a3.cani 1 rfl rfl, Q02 fun ea e5 => ?_⟩
  have e1 := dx.x_set (q := a5.heap.size) (i := 1) rfl (.inr ak) e5
  have a2 := a2.oth (q := a5.heap.size) (i := 1) rfl a6 e5
  have a3 : Blk ea a5.heap.size 27 [.int .i64 0, .int .i64 0, .int .u64 0, .int .i64 0, .int .i64 0, .int .i64 0, .slice none 0 0, .int .u64 0] := a3.seti 1 rfl e5
  refine ⟨a3.cani 2 rfl rfl, Q02 fun du e6 => ?_⟩
  have e0 := e1.x_set (q := a5.heap.size) (i := 2) rfl (.inr ak) e6
  have a2 := a2.oth (q := a5.heap.size) (i := 2) rfl a6 e6
  have a3 : Blk du a5.heap.size 27 [.int .i64 0, .int .i64 0, .int .u64 0, .int .i64 0, .int .i64 0, .int .i64 0, .slice none 0 0, .int .u64 0] := a3.seti 2 rfl e6
  refine ⟨a3.cani 3 rfl rfl, Q02 fun ej e7 => ?_⟩
  have dy := e0.x_set (q := a5.heap.size) (i := 3) rfl (.inr ak) e7
  have a2 := a2.oth (q := a5.heap.size) (i := 3) rfl a6 e7
  have a3 : Blk ej a5.heap.size 27 [.int .i64 0, .int .i64 0, .int .u64 0, .int .i64 0, .int .i64 0, .int .i64 0, .slice none 0 0, .int .u64 0] := a3.seti 3 rfl e7
  refine ⟨a3.cani 4 rfl rfl, Q02 fun ei e8 => ?_⟩
  have ds := dy.x_set (q := a5.heap.size) (i := 4) rfl (.inr ak) e8
  have a2 := a2.oth (q := a5.heap.size) (i := 4) rfl a6 e8
  have a3 : Blk ei a5.heap.size 27 [.int .i64 0, .int .i64 0, .int .u64 0, .int .i64 0, .int .i64 0, .int .i64 0, .slice none 0 0, .int .u64 0] := a3.seti 4 rfl e8
  refine ⟨a3.cani 5 rfl rfl, Q02 fun ef e9 => ?_⟩
  have eh := ds.x_set (q := a5.heap.size) (i := 5) rfl (.inr ak) e9
  have a2 := a2.oth (q := a5.heap.size) (i := 5) rfl a6 e9
  have a3 : Blk ef a5.heap.size 27 [.int .i64 0, .int .i64 0, .int .u64 0, .int .i64 0, .int .i64 0, .int .i64 0, .slice none 0 0, .int .u64 0] := a3.seti 5 rfl e9
  refine ⟨a3.cani 6 rfl rfl, Q02 fun bh co => ?_⟩
  have be := eh.x_set (q := a5.heap.size) (i := 6) rfl (.inr ak) co
  have a2 := a2.oth (q := a5.heap.size) (i := 6) rfl a6 co
  have a3 : Blk bh a5.heap.size 27 [.int .i64 0, .int .i64 0, .int .u64 0, .int .i64 0, .int .i64 0, .int .i64 0, .slice none 0 0, .int .u64 0] := a3.seti 6 rfl co
  refine ⟨a3.cani 7 rfl rfl, Q02 fun ax bv => ?_⟩
  have c0 := be.x_set (q := a5.heap.size) (i := 7) rfl (.inr ak) bv
  have a2 := a2.oth (q := a5.heap.size) (i := 7) rfl a6 bv
  have a3 : Blk ax a5.heap.size 27 [.int .i64 0, .int .i64 0, .int .u64 0, .int .i64 0, .int .i64 0, .int .i64 0, .slice none 0 0, .int .u64 0] := a3.seti 7 rfl bv
  have h := h ax (w.heap.size) (a5.heap.size) c0 (Priv.cons dt a2.lt (Priv.cons ak a3.lt Priv.nil))
  refine h.mono fun dw ao h => ?_
  obtain ⟨a0, he, hk, h⟩ := h
  refine ⟨a0, he, ?_⟩
  have a2 := hk.blk a2 (by simp)
  have a3 := hk.blk a3 (by simp)
  have c7 : Ext (fun b => b = a5.heap.size) ao ao := ((Ext.refl no ao)).none
  refine ⟨a3.cani 0 rfl rfl, Q02 fun b1 bj => ?_⟩
  have ch := c7.x_set (q := a5.heap.size) (i := 0) rfl (.inl rfl) bj
  have a2 := a2.oth (q := a5.heap.size) (i := 0) rfl a6 bj
  have a3 : Blk b1 a5.heap.size 27 [.int .i64 a0, .int .i64 0, .int .u64 0, .int .i64 0, .int .i64 0, .int .i64 0, .slice none 0 0, .int .u64 0] := a3.seti 0 rfl bj
  have h := h b1 ch
  refine h.mono fun dv aq h => ?_
  obtain ⟨a1, he, hk, h⟩ := h
  refine ⟨a1, he, ?_⟩
  have a2 := hk.blk a2 (by simp)
  have a3 := hk.blk a3 (by simp)
  have bw : Ext (fun b => b = a5.heap.size) aq aq := ((Ext.refl no aq)).none
  refine ⟨a3.cani 1 rfl rfl, Q02 fun b4 ck => ?_⟩
  have bt := bw.x_set (q := a5.heap.size) (i := 1) rfl (.inl rfl) ck
  have a2 := a2.oth (q := a5.heap.size) (i := 1) rfl a6 ck
  have a3 : Blk b4 a5.heap.size 27 [.int .i64 a0, .int .i64 a1, .int .u64 0, .int .i64 0, .int .i64 0, .int .i64 0, .slice none 0 0, .int .u64 0] := a3.seti 1 rfl ck
  have h := h b4 bt
  refine h.mono fun ee am h => ?_
  obtain ⟨a4, he, hk, h⟩ := h
  refine ⟨a4, he, ?_⟩
  have a2 := hk.blk a2 (by simp)
  have a3 := hk.blk a3 (by simp)
  have b9 : Ext (fun b => b = a5.heap.size) am am := ((Ext.refl no am)).none
  refine ⟨a3.cani 2 rfl rfl, Q02 fun b6 ce => ?_⟩
  have d2 := b9.x_set (q := a5.heap.size) (i := 2) rfl (.inl rfl) ce
  have a2 := a2.oth (q := a5.heap.size) (i := 2) rfl a6 ce
  have a3 : Blk b6 a5.heap.size 27 [.int .i64 a0, .int .i64 a1, .int .u64 a4, .int .i64 0, .int .i64 0, .int .i64 0, .slice none 0 0, .int .u64 0] := a3.seti 2 rfl ce
  have h := h b6 d2
  refine h.mono fun eb ar h => ?_
  obtain ⟨ae, af, he, hk, h⟩ := h
  refine ⟨ae, af, he, ?_⟩
  have a2 := hk.blk a2 (by simp)
  have a3 := hk.blk a3 (by simp)
  have cg : Ext (fun b => b = a5.heap.size) ar ar := ((Ext.refl no ar)).none
  refine ⟨a3.cani 3 rfl rfl, Q02 fun cw br => ?_⟩
  have cr := cg.x_set (q := a5.heap.size) (i := 3) rfl (.inl rfl) br
  have a2 := a2.oth (q := a5.heap.size) (i := 3) rfl a6 br
  have a3 : Blk cw a5.heap.size 27 [.int .i64 a0, .int .i64 a1, .int .u64 a4, .int .i64 ae, .int .i64 0, .int .i64 0, .slice none 0 0, .int .u64 0] := a3.seti 3 rfl br
  refine ⟨a3.cani 4 rfl rfl, Q02 fun az d5 => ?_⟩
  have cs := cr.x_set (q := a5.heap.size) (i := 4) rfl (.inl rfl) d5
  have a2 := a2.oth (q := a5.heap.size) (i := 4) rfl a6 d5
  have a3 : Blk az a5.heap.size 27 [.int .i64 a0, .int .i64 a1, .int .u64 a4, .int .i64 ae, .int .i64 af, .int .i64 0, .slice none 0 0, .int .u64 0] := a3.seti 4 rfl d5
  have h := h az cs
  refine h.mono fun dz av h => ?_
  obtain ⟨ad, he, hk, h⟩ := h
  refine ⟨ad, he, ?_⟩
  have a2 := hk.blk a2 (by simp)
  have a3 := hk.blk a3 (by simp)
  have cl : Ext (fun b => b = a5.heap.size) av av := ((Ext.refl no av)).none
  refine ⟨a3.cani 5 rfl rfl, Q02 fun aw ct => ?_⟩
  have an := cl.x_set (q := a5.heap.size) (i := 5) rfl (.inl rfl) ct
  have a2 := a2.oth (q := a5.heap.size) (i := 5) rfl a6 ct
  have a3 : Blk aw a5.heap.size 27 [.int .i64 a0, .int .i64 a1, .int .u64 a4, .int .i64 ae, .int .i64 af, .int .i64 ad, .slice none 0 0, .int .u64 0] := a3.seti 5 rfl ct
  refine bif_of (fun cv => ?_) (fun cv => ?_)
  have h := h.1 (of_decide_eq_true cv)
  refine ⟨a3.cani 5 rfl rfl, Q02 fun al cy => ?_⟩
  have b7 := an.x_set (q := a5.heap.size) (i := 5) rfl (.inl rfl) cy
  have a2 := a2.oth (q := a5.heap.size) (i := 5) rfl a6 cy
  have a3 : Blk al a5.heap.size 27 [.int .i64 a0, .int .i64 a1, .int .u64 a4, .int .i64 ae, .int .i64 af, .int .i64 (-9), .slice none 0 0, .int .u64 0] := a3.seti 5 rfl cy
  rotate_left
  have h := h.2 (Int.not_lt.1 (of_decide_eq_false cv))
  refine bif_fo (fun d7 => ?_) (fun d7 => ?_)
  ·have h := h.2 (Int.not_lt.1 (of_decide_eq_false d7))
   unfold Q0h.J1
   have h := h aw an
   refine h.mono fun eg au h => ?_
   obtain ⟨a8, ac, ab, he, hk, h⟩ := h
   refine ⟨a8, ac, ab, he, ?_⟩
   have a2 := hk.blk a2 (by simp)
   have a3 := hk.blk a3 (by simp)
   have d1 : Ext (fun b => b = a5.heap.size) au au := ((Ext.refl no au)).none
   refine ⟨a3.cani 6 rfl rfl, Q02 fun b3 bf => ?_⟩
   have d3 := d1.x_set (q := a5.heap.size) (i := 6) rfl (.inl rfl) bf
   have a2 := a2.oth (q := a5.heap.size) (i := 6) rfl a6 bf
   have a3 : Blk b3 a5.heap.size 27 [.int .i64 a0, .int .i64 a1, .int .u64 a4, .int .i64 ae, .int .i64 af, .int .i64 ad, .slice a8 ac ab, .int .u64 0] := a3.seti 6 rfl bf
   have h := h b3 d3
   refine h.mono fun ed aj h => ?_
   obtain ⟨ag, he, hk, h⟩ := h
   refine ⟨ag, he, ?_⟩
   have a2 := hk.blk a2 (by simp)
   have a3 := hk.blk a3 (by simp)
   have cb : Ext (fun b => b = a5.heap.size) aj aj := ((Ext.refl no aj)).none
   refine ⟨a3.cani 7 rfl rfl, Q02 fun b2 bc => ?_⟩
   have cn := cb.x_set (q := a5.heap.size) (i := 7) rfl (.inl rfl) bc
   have a2 := a2.oth (q := a5.heap.size) (i := 7) rfl a6 bc
   have a3 : Blk b2 a5.heap.size 27 [.int .i64 a0, .int .i64 a1, .int .u64 a4, .int .i64 ae, .int .i64 af, .int .i64 ad, .slice a8 ac ab, .int .u64 ag] := a3.seti 7 rfl bc
   refine ⟨a0, a1, a4, ae, af, ad, a8, ac, ab, ag, ⟨a3.celli 0 rfl rfl, a3.celli 1 rfl rfl, a3.celli 2 rfl rfl, a3.celli 3 rfl rfl, a3.celli 4 rfl rfl, a3.celli 5 rfl rfl, a3.celli 6 rfl rfl, a3.celli 7 rfl rfl, trivial⟩, ?_⟩
   have c5 : Ext (fun b => b = w.heap.size ∨ b = a5.heap.size) aj b2 := (cn).mono fun _ h _ => .inr h
   refine ⟨a2.cani 0 rfl rfl, Q02 fun cq dh => ?_⟩
   have cm := c5.x_set (q := w.heap.size) (i := 0) rfl (.inl (.inl rfl)) dh
   have a2 : Blk cq w.heap.size 27 [.int .i64 a0, .int .i64 0, .int .u64 0, .int .i64 0, .int .i64 0, .int .i64 0, .slice none 0 0, .int .u64 0] := a2.seti 0 rfl dh
   refine ⟨a2.cani 1 rfl rfl, Q02 fun bu dl => ?_⟩
   have bi := cm.x_set (q := w.heap.size) (i := 1) rfl (.inl (.inl rfl)) dl
   have a2 : Blk bu w.heap.size 27 [.int .i64 a0, .int .i64 a1, .int .u64 0, .int .i64 0, .int .i64 0, .int .i64 0, .slice none 0 0, .int .u64 0] := a2.seti 1 rfl dl
   refine ⟨a2.cani 2 rfl rfl, Q02 fun c6 dn => ?_⟩
   have bq := bi.x_set (q := w.heap.size) (i := 2) rfl (.inl (.inl rfl)) dn
   have a2 : Blk c6 w.heap.size 27 [.int .i64 a0, .int .i64 a1, .int .u64 a4, .int .i64 0, .int .i64 0, .int .i64 0, .slice none 0 0, .int .u64 0] := a2.seti 2 rfl dn
   refine ⟨a2.cani 3 rfl rfl, Q02 fun cf dc => ?_⟩
   have bm := bq.x_set (q := w.heap.size) (i := 3) rfl (.inl (.inl rfl)) dc
   have a2 : Blk cf w.heap.size 27 [.int .i64 a0, .int .i64 a1, .int .u64 a4, .int .i64 ae, .int .i64 0, .int .i64 0, .slice none 0 0, .int .u64 0] := a2.seti 3 rfl dc
   refine ⟨a2.cani 4 rfl rfl, Q02 fun c8 da => ?_⟩
   have c9 := bm.x_set (q := w.heap.size) (i := 4) rfl (.inl (.inl rfl)) da
   have a2 : Blk c8 w.heap.size 27 [.int .i64 a0, .int .i64 a1, .int .u64 a4, .int .i64 ae, .int .i64 af, .int .i64 0, .slice none 0 0, .int .u64 0] := a2.seti 4 rfl da
   refine ⟨a2.cani 5 rfl rfl, Q02 fun ca dm => ?_⟩
   have cp := c9.x_set (q := w.heap.size) (i := 5) rfl (.inl (.inl rfl)) dm
   have a2 : Blk ca w.heap.size 27 [.int .i64 a0, .int .i64 a1, .int .u64 a4, .int .i64 ae, .int .i64 af, .int .i64 ad, .slice none 0 0, .int .u64 0] := a2.seti 5 rfl dm
   refine ⟨a2.cani 6 rfl rfl, Q02 fun bg d9 => ?_⟩
   have bp := cp.x_set (q := w.heap.size) (i := 6) rfl (.inl (.inl rfl)) d9
   have a2 : Blk bg w.heap.size 27 [.int .i64 a0, .int .i64 a1, .int .u64 a4, .int .i64 ae, .int .i64 af, .int .i64 ad, .slice a8 ac ab, .int .u64 0] := a2.seti 6 rfl d9
   refine ⟨a2.cani 7 rfl rfl, Q02 fun b5 d8 => ?_⟩
   have bd := bp.x_set (q := w.heap.size) (i := 7) rfl (.inl (.inl rfl)) d8
   have a2 : Blk b5 w.heap.size 27 [.int .i64 a0, .int .i64 a1, .int .u64 a4, .int .i64 ae, .int .i64 af, .int .i64 ad, .slice a8 ac ab, .int .u64 ag] := a2.seti 7 rfl d8
   refine ⟨a0, a1, a4, ae, af, ad, a8, ac, ab, ag, ⟨a2.celli 0 rfl rfl, a2.celli 1 rfl rfl, a2.celli 2 rfl rfl, a2.celli 3 rfl rfl, a2.celli 4 rfl rfl, a2.celli 5 rfl rfl, a2.celli 6 rfl rfl, a2.celli 7 rfl rfl, trivial⟩, ?_⟩
   have h := h b5 bd
   exact h
  have h := h.1 (of_decide_eq_true d7)
  refine ⟨a3.cani 5 rfl rfl, Q02 fun al d6 => ?_⟩
  have b7 := an.x_set (q := a5.heap.size) (i := 5) rfl (.inl rfl) d6
  have a2 := a2.oth (q := a5.heap.size) (i := 5) rfl a6 d6
  have a3 : Blk al a5.heap.size 27 [.int .i64 a0, .int .i64 a1, .int .u64 a4, .int .i64 ae, .int .i64 af, .int .i64 (-9), .slice none 0 0, .int .u64 0] := a3.seti 5 rfl d6
  rotate_left
  all_goals
   unfold Q0h.J1
   have h := h al b7
   refine h.mono fun dq ap h => ?_
   obtain ⟨a9, a7, aa, he, hk, h⟩ := h
   refine ⟨a9, a7, aa, he, ?_⟩
   have a2 := hk.blk a2 (by simp)
   have a3 := hk.blk a3 (by simp)
   have ba : Ext (fun b => b = a5.heap.size) ap ap := ((Ext.refl no ap)).none
   refine ⟨a3.cani 6 rfl rfl, Q02 fun b8 c3 => ?_⟩
   have cu := ba.x_set (q := a5.heap.size) (i := 6) rfl (.inl rfl) c3
   have a2 := a2.oth (q := a5.heap.size) (i := 6) rfl a6 c3
   have a3 : Blk b8 a5.heap.size 27 [.int .i64 a0, .int .i64 a1, .int .u64 a4, .int .i64 ae, .int .i64 af, .int .i64 (-9), .slice a9 a7 aa, .int .u64 0] := a3.seti 6 rfl c3
   have h := h b8 cu
   refine h.mono fun dr ai h => ?_
   obtain ⟨ah, he, hk, h⟩ := h
   refine ⟨ah, he, ?_⟩
   have a2 := hk.blk a2 (by simp)
   have a3 := hk.blk a3 (by simp)
   have bx : Ext (fun b => b = a5.heap.size) ai ai := ((Ext.refl no ai)).none
   refine ⟨a3.cani 7 rfl rfl, Q02 fun ay bs => ?_⟩
   have cx := bx.x_set (q := a5.heap.size) (i := 7) rfl (.inl rfl) bs
   have a2 := a2.oth (q := a5.heap.size) (i := 7) rfl a6 bs
   have a3 : Blk ay a5.heap.size 27 [.int .i64 a0, .int .i64 a1, .int .u64 a4, .int .i64 ae, .int .i64 af, .int .i64 (-9), .slice a9 a7 aa, .int .u64 ah] := a3.seti 7 rfl bs
   refine ⟨a0, a1, a4, ae, af, (-9), a9, a7, aa, ah, ⟨a3.celli 0 rfl rfl, a3.celli 1 rfl rfl, a3.celli 2 rfl rfl, a3.celli 3 rfl rfl, a3.celli 4 rfl rfl, a3.celli 5 rfl rfl, a3.celli 6 rfl rfl, a3.celli 7 rfl rfl, trivial⟩, ?_⟩
   have cc : Ext (fun b => b = w.heap.size ∨ b = a5.heap.size) ai ay := (cx).mono fun _ h _ => .inr h
   refine ⟨a2.cani 0 rfl rfl, Q02 fun c4 di => ?_⟩
   have bl := cc.x_set (q := w.heap.size) (i := 0) rfl (.inl (.inl rfl)) di
   have a2 : Blk c4 w.heap.size 27 [.int .i64 a0, .int .i64 0, .int .u64 0, .int .i64 0, .int .i64 0, .int .i64 0, .slice none 0 0, .int .u64 0] := a2.seti 0 rfl di
   refine ⟨a2.cani 1 rfl rfl, Q02 fun bb dp => ?_⟩
   have d0 := bl.x_set (q := w.heap.size) (i := 1) rfl (.inl (.inl rfl)) dp
   have a2 : Blk bb w.heap.size 27 [.int .i64 a0, .int .i64 a1, .int .u64 0, .int .i64 0, .int .i64 0, .int .i64 0, .slice none 0 0, .int .u64 0] := a2.seti 1 rfl dp
   refine ⟨a2.cani 2 rfl rfl, Q02 fun bz dk => ?_⟩
   have bo := d0.x_set (q := w.heap.size) (i := 2) rfl (.inl (.inl rfl)) dk
   have a2 : Blk bz w.heap.size 27 [.int .i64 a0, .int .i64 a1, .int .u64 a4, .int .i64 0, .int .i64 0, .int .i64 0, .slice none 0 0, .int .u64 0] := a2.seti 2 rfl dk
   refine ⟨a2.cani 3 rfl rfl, Q02 fun bn dj => ?_⟩
   have bk := bo.x_set (q := w.heap.size) (i := 3) rfl (.inl (.inl rfl)) dj
   have a2 : Blk bn w.heap.size 27 [.int .i64 a0, .int .i64 a1, .int .u64 a4, .int .i64 ae, .int .i64 0, .int .i64 0, .slice none 0 0, .int .u64 0] := a2.seti 3 rfl dj
   refine ⟨a2.cani 4 rfl rfl, Q02 fun c1 dg => ?_⟩
   have d4 := bk.x_set (q := w.heap.size) (i := 4) rfl (.inl (.inl rfl)) dg
   have a2 : Blk c1 w.heap.size 27 [.int .i64 a0, .int .i64 a1, .int .u64 a4, .int .i64 ae, .int .i64 af, .int .i64 0, .slice none 0 0, .int .u64 0] := a2.seti 4 rfl dg
   refine ⟨a2.cani 5 rfl rfl, Q02 fun ci db => ?_⟩
   have cz := d4.x_set (q := w.heap.size) (i := 5) rfl (.inl (.inl rfl)) db
   have a2 : Blk ci w.heap.size 27 [.int .i64 a0, .int .i64 a1, .int .u64 a4, .int .i64 ae, .int .i64 af, .int .i64 (-9), .slice none 0 0, .int .u64 0] := a2.seti 5 rfl db
   refine ⟨a2.cani 6 rfl rfl, Q02 fun cj dd => ?_⟩
   have c2 := cz.x_set (q := w.heap.size) (i := 6) rfl (.inl (.inl rfl)) dd
   have a2 : Blk cj w.heap.size 27 [.int .i64 a0, .int .i64 a1, .int .u64 a4, .int .i64 ae, .int .i64 af, .int .i64 (-9), .slice a9 a7 aa, .int .u64 0] := a2.seti 6 rfl dd
   refine ⟨a2.cani 7 rfl rfl, Q02 fun b0 de => ?_⟩
   have cd := c2.x_set (q := w.heap.size) (i := 7) rfl (.inl (.inl rfl)) de
   have a2 : Blk b0 w.heap.size 27 [.int .i64 a0, .int .i64 a1, .int .u64 a4, .int .i64 ae, .int .i64 af, .int .i64 (-9), .slice a9 a7 aa, .int .u64 ah] := a2.seti 7 rfl de
   refine ⟨a0, a1, a4, ae, af, (-9), a9, a7, aa, ah, ⟨a2.celli 0 rfl rfl, a2.celli 1 rfl rfl, a2.celli 2 rfl rfl, a2.celli 3 rfl rfl, a2.celli 4 rfl rfl, a2.celli 5 rfl rfl, a2.celli 6 rfl rfl, a2.celli 7 rfl rfl, trivial⟩, ?_⟩
   have h := h b0 cd
   exact h

theorem Q0h.go (r1 : Option Addr) {R : RW} {w : World} (h : Q0h.N r1 R w) : Calls Try.prog 66 #[.pointer r1] w fun e w' => ∃ v, e = .returned v ∧ R v w' := Q0h.ok r1 (Q0h.up r1 h)
abbrev Q0j.J1 (br a0 : Addr) (R : RW) (bh : World) : Prop :=
 ∃ (ap au b2 b8 b5 ay : Int) (az : Option Addr) (av aw : Nat) (b7 : Int), cellsAt bh br [.int .i64 ap, .int .i64 au, .int .u64 b2, .int .i64 b8, .int .i64 b5, .int .i64 ay, .slice az av aw, .int .u64 b7] 0 ∧
 Calls Try.prog 49 #[.agg #[.int .i64 ap, .int .i64 au, .int .u64 b2, .int .i64 b8, .int .i64 b5, .int .i64 ay, .slice az av aw, .int .u64 b7]] bh fun bq b6 => ∃ (b0 : Bool), bq = .returned (.bool b0) ∧
 bif !b0 then (
 Q01 b6 (a0.add 0) ∧
 thenW (b6.setCell (a0.add 0) (.int .i64 0)) fun bk =>
 Q01 bk (a0.add 1) ∧
 thenW (bk.setCell (a0.add 1) (.int .i64 0)) fun bm =>
 Q01 bm (a0.add 2) ∧
 thenW (bm.setCell (a0.add 2) (.int .u64 0)) fun bj =>
 Q01 bj (a0.add 3) ∧
 thenW (bj.setCell (a0.add 3) (.int .i64 0)) fun bn =>
 Q01 bn (a0.add 4) ∧
 thenW (bn.setCell (a0.add 4) (.int .i64 0)) fun bi =>
 Q01 bi (a0.add 5) ∧
 thenW (bi.setCell (a0.add 5) (.int .i64 0)) fun bo =>
 Q01 bo (a0.add 6) ∧
 thenW (bo.setCell (a0.add 6) (.slice none 0 0)) fun bp =>
 Q01 bp (a0.add 7) ∧
 thenW (bp.setCell (a0.add 7) (.int .u64 0)) fun bl =>
 ∃ (a7 ac ag aq ax a9 : Int) (a8 : Option Addr) (ad ab : Nat) (af : Int), cellsAt bl a0 [.int .i64 a7, .int .i64 ac, .int .u64 ag, .int .i64 aq, .int .i64 ax, .int .i64 a9, .slice a8 ad ab, .int .u64 af] 0 ∧
 R (.tuple #[.agg #[.int .i64 a7, .int .i64 ac, .int .u64 ag, .int .i64 aq, .int .i64 ax, .int .i64 a9, .slice a8 ad ab, .int .u64 af], .int .i64 4]) bl) else (
 ∃ (aa aj ar b1 b3 am : Int) (ah : Option Addr) (al an : Nat) (b4 : Int), cellsAt b6 br [.int .i64 aa, .int .i64 aj, .int .u64 ar, .int .i64 b1, .int .i64 b3, .int .i64 am, .slice ah al an, .int .u64 b4] 0 ∧
 Q01 b6 (a0.add 0) ∧
 thenW (b6.setCell (a0.add 0) (.int .i64 aa)) fun bf =>
 Q01 bf (a0.add 1) ∧
 thenW (bf.setCell (a0.add 1) (.int .i64 aj)) fun bd =>
 Q01 bd (a0.add 2) ∧
 thenW (bd.setCell (a0.add 2) (.int .u64 ar)) fun bb =>
 Q01 bb (a0.add 3) ∧
 thenW (bb.setCell (a0.add 3) (.int .i64 b1)) fun bc =>
 Q01 bc (a0.add 4) ∧
 thenW (bc.setCell (a0.add 4) (.int .i64 b3)) fun b9 =>
 Q01 b9 (a0.add 5) ∧
 thenW (b9.setCell (a0.add 5) (.int .i64 am)) fun bg =>
 Q01 bg (a0.add 6) ∧
 thenW (bg.setCell (a0.add 6) (.slice ah al an)) fun ba =>
 Q01 ba (a0.add 7) ∧
 thenW (ba.setCell (a0.add 7) (.int .u64 b4)) fun be =>
 ∃ (a1 a2 ae ao ak a3 : Int) (a6 : Option Addr) (a5 a4 : Nat) (ai : Int), cellsAt be a0 [.int .i64 a1, .int .i64 a2, .int .u64 ae, .int .i64 ao, .int .i64 ak, .int .i64 a3, .slice a6 a5 a4, .int .u64 ai] 0 ∧
 R (.tuple #[.agg #[.int .i64 a1, .int .i64 a2, .int .u64 ae, .int .i64 ao, .int .i64 ak, .int .i64 a3, .slice a6 a5 a4, .int .u64 ai], .int .i64 0]) be)

def Q0j.M (b9 : Option Addr) (ba bc : Nat) (R : RW) (w : World) : Prop :=
 thenW (w.alloc (.cells #[.int .i64 0, .int .i64 0, .int .u64 0, .int .i64 0, .int .i64 0, .int .i64 0, .slice none 0 0, .int .u64 0] 27)) fun b7 =>
 thenW (b7.alloc (.cells #[.slice b9 ba bc, .int .i64 0] 83)) fun bb =>
 Calls Try.prog 66 #[.pointer (some (blk b7.heap.size))] bb fun b5 a0 => ∃ (ac ag ai b1 au ah : Int) (ae : Option Addr) (ad af : Nat) (aj : Int), b5 = .returned (.agg #[.int .i64 ac, .int .i64 ag, .int .u64 ai, .int .i64 b1, .int .i64 au, .int .i64 ah, .slice ae ad af, .int .u64 aj]) ∧
 thenW (a0.alloc (.cells #[.int .i64 0, .int .i64 0, .int .u64 0, .int .i64 0, .int .i64 0, .int .i64 0, .slice none 0 0, .int .u64 0] 27)) fun b4 =>
 Q01 b4 ((blk a0.heap.size).add 0) ∧
 thenW (b4.setCell ((blk a0.heap.size).add 0) (.int .i64 ac)) fun aq =>
 Q01 aq ((blk a0.heap.size).add 1) ∧
 thenW (aq.setCell ((blk a0.heap.size).add 1) (.int .i64 ag)) fun aw =>
 Q01 aw ((blk a0.heap.size).add 2) ∧
 thenW (aw.setCell ((blk a0.heap.size).add 2) (.int .u64 ai)) fun ay =>
 Q01 ay ((blk a0.heap.size).add 3) ∧
 thenW (ay.setCell ((blk a0.heap.size).add 3) (.int .i64 b1)) fun ao =>
 Q01 ao ((blk a0.heap.size).add 4) ∧
 thenW (ao.setCell ((blk a0.heap.size).add 4) (.int .i64 au)) fun b0 =>
 Q01 b0 ((blk a0.heap.size).add 5) ∧
 thenW (b0.setCell ((blk a0.heap.size).add 5) (.int .i64 ah)) fun ax =>
 Q01 ax ((blk a0.heap.size).add 6) ∧
 thenW (ax.setCell ((blk a0.heap.size).add 6) (.slice ae ad af)) fun am =>
 Q01 am ((blk a0.heap.size).add 7) ∧
 thenW (am.setCell ((blk a0.heap.size).add 7) (.int .u64 aj)) fun b8 =>
 Calls Try.prog 46 #[.pointer (some (blk b7.heap.size))] b8 fun b6 ak => ∃ (ab : Int), b6 = .returned (.int .i64 ab) ∧
 bif ab != 0 then (
 Q01 ak ((blk w.heap.size).add 0) ∧
 thenW (ak.setCell ((blk w.heap.size).add 0) (.int .i64 0)) fun b2 =>
 Q01 b2 ((blk w.heap.size).add 1) ∧
 thenW (b2.setCell ((blk w.heap.size).add 1) (.int .i64 0)) fun ar =>
 Q01 ar ((blk w.heap.size).add 2) ∧
 thenW (ar.setCell ((blk w.heap.size).add 2) (.int .u64 0)) fun b3 =>
 Q01 b3 ((blk w.heap.size).add 3) ∧
 thenW (b3.setCell ((blk w.heap.size).add 3) (.int .i64 0)) fun az =>
 Q01 az ((blk w.heap.size).add 4) ∧
 thenW (az.setCell ((blk w.heap.size).add 4) (.int .i64 0)) fun an =>
 Q01 an ((blk w.heap.size).add 5) ∧
 thenW (an.setCell ((blk w.heap.size).add 5) (.int .i64 0)) fun av =>
 Q01 av ((blk w.heap.size).add 6) ∧
 thenW (av.setCell ((blk w.heap.size).add 6) (.slice none 0 0)) fun ap =>
 Q01 ap ((blk w.heap.size).add 7) ∧
 thenW (ap.setCell ((blk w.heap.size).add 7) (.int .u64 0)) fun al =>
 ∃ (a1 a6 a7 a8 a9 a2 : Int) (a5 : Option Addr) (a4 a3 : Nat) (aa : Int), cellsAt al (blk w.heap.size) [.int .i64 a1, .int .i64 a6, .int .u64 a7, .int .i64 a8, .int .i64 a9, .int .i64 a2, .slice a5 a4 a3, .int .u64 aa] 0 ∧
 R (.tuple #[.agg #[.int .i64 a1, .int .i64 a6, .int .u64 a7, .int .i64 a8, .int .i64 a9, .int .i64 a2, .slice a5 a4 a3, .int .u64 aa], .int .i64 ab]) al) else (
 Q0j.J1 (blk a0.heap.size) (blk w.heap.size) R ak)

theorem Q0j.ok (a1 : Option Addr) (a0 a2 : Nat) {R : RW} {w : World} (h : Q0j.M a1 a0 a2 R w) : Calls Try.prog 47 #[.slice a1 a0 a2] w fun e w' => ∃ v, e = .returned v ∧ R v w' :=
  Q08 follows (H := []) (args := [.slice a1 a0 a2]) (cast (by kernel_rfl) h)

def Q0j.N (al : Option Addr) (am an : Nat) (R : RW) (w : World) : Prop :=
 ∀ (ag : World) (q4 p5 : Nat), Ext no w ag → Blk ag q4 83 [.slice al am an, .int .i64 0] → w.heap.size ≤ q4 → q4 < ag.heap.size → Privq w q4 [p5] →
 Calls Try.prog 66 #[.pointer (some (blk q4))] ag fun ai ad => ∃ (a0 a5 a9 ab a7 a2 : Int) (a1 : Option Addr) (a3 a4 : Nat) (a8 : Int), ai = .returned (.agg #[.int .i64 a0, .int .i64 a5, .int .u64 a9, .int .i64 ab, .int .i64 a7, .int .i64 a2, .slice a1 a3 a4, .int .u64 a8]) ∧
 Keep [p5] ag ad ∧
 ∀ (aa : World) (ak : Nat), Ext no ad aa → Priv ad aa [ak] →
 Calls Try.prog 46 #[.pointer (some (blk q4))] aa fun aj ac => ∃ (a6 : Int), aj = .returned (.int .i64 a6) ∧
 Keep [p5, ak] aa ac ∧
 (a6 ≠ 0 →
 ∀ (af : World), Ext (fun b => b = p5) ac af →
 R (.tuple #[.agg #[.int .i64 0, .int .i64 0, .int .u64 0, .int .i64 0, .int .i64 0, .int .i64 0, .slice none 0 0, .int .u64 0], .int .i64 a6]) af) ∧
 (a6 = 0 →
 ((Q03.F a0 a5 a9 ab a7 a2 a1 a3 a4 a8) = false →
 ∀ (ae : World), Ext (fun b => b = p5) ac ae →
 R (.tuple #[.agg #[.int .i64 0, .int .i64 0, .int .u64 0, .int .i64 0, .int .i64 0, .int .i64 0, .slice none 0 0, .int .u64 0], .int .i64 4]) ae) ∧
 ((Q03.F a0 a5 a9 ab a7 a2 a1 a3 a4 a8) = true →
 ∀ (ah : World), Ext (fun b => b = p5) ac ah →
 R (.tuple #[.agg #[.int .i64 a0, .int .i64 a5, .int .u64 a9, .int .i64 ab, .int .i64 a7, .int .i64 a2, .slice a1 a3 a4, .int .u64 a8], .int .i64 0]) ah))

theorem Q0j.up (cy : Option Addr) (cz di : Nat) {R : RW} {w : World} (h : Q0j.N cy cz di R w) : Q0j.M cy cz di R w := by
  unfold Q0j.M
  unfold Q0j.N at h
  refine Q02 fun dr e2 => ?_
  have a0 := Blk.of_new e2
  have dl := ((Ext.refl no w)).size
  have d4 := (Ext.refl no w).x_alloc e2
  refine Q02 fun dm e3 => ?_
  have dp := a0.lt
  have a0 := a0.x_alloc e3
  have h := h dm dr.heap.size (w.heap.size) (d4.x_alloc e3) (Blk.of_new e3) (d4).size (Q0N e3) (Privq.cons dl dp Privq.nil)
  refine h.mono fun dn a5 h => ?_
  obtain ⟨a1, a2, a4, ab, aa, a3, a8, a7, a6, ac, he, hk, h⟩ := h
  refine ⟨a1, a2, a4, ab, aa, a3, a8, a7, a6, ac, he, ?_⟩
  have a0 := hk.blk a0 (by simp)
  refine Q02 fun dk bs => ?_
  have a9 := Blk.of_new bs
  have af := ((Ext.refl no a5)).size
  have ad := Nat.ne_of_lt a0.lt
  have a0 := a0.x_alloc bs
  have ao := (Ext.refl no a5).x_alloc bs
  refine ⟨a9.cani 0 rfl rfl, Q02 fun bp b0 => ?_⟩
  have c0 := ao.x_set (q := a5.heap.size) (i := 0) rfl (.inr af) b0
  have a0 := a0.oth (q := a5.heap.size) (i := 0) rfl ad b0
  have a9 : Blk bp a5.heap.size 27 [.int .i64 a1, .int .i64 0, .int .u64 0, .int .i64 0, .int .i64 0, .int .i64 0, .slice none 0 0, .int .u64 0] := a9.seti 0 rfl b0
  refine ⟨a9.cani 1 rfl rfl, Q02 fun ax bk => ?_⟩
  have cb := c0.x_set (q := a5.heap.size) (i := 1) rfl (.inr af) bk
  have a0 := a0.oth (q := a5.heap.size) (i := 1) rfl ad bk
  have a9 : Blk ax a5.heap.size 27 [.int .i64 a1, .int .i64 a2, .int .u64 0, .int .i64 0, .int .i64 0, .int .i64 0, .slice none 0 0, .int .u64 0] := a9.seti 1 rfl bk
  refine ⟨a9.cani 2 rfl rfl, Q02 fun bq cn => ?_⟩
  have b6 := cb.x_set (q := a5.heap.size) (i := 2) rfl (.inr af) cn
  have a0 := a0.oth (q := a5.heap.size) (i := 2) rfl ad cn
  have a9 : Blk bq a5.heap.size 27 [.int .i64 a1, .int .i64 a2, .int .u64 a4, .int .i64 0, .int .i64 0, .int .i64 0, .slice none 0 0, .int .u64 0] := a9.seti 2 rfl cn
  refine ⟨a9.cani 3 rfl rfl, Q02 fun bo c2 => ?_⟩
  have c4 := b6.x_set (q := a5.heap.size) (i := 3) rfl (.inr af) c2
  have a0 := a0.oth (q := a5.heap.size) (i := 3) rfl ad c2
  have a9 : Blk bo a5.heap.size 27 [.int .i64 a1, .int .i64 a2, .int .u64 a4, .int .i64 ab, .int .i64 0, .int .i64 0, .slice none 0 0, .int .u64 0] := a9.seti 3 rfl c2
  refine ⟨a9.cani 4 rfl rfl, Q02 fun bw c7 => ?_⟩
  have be := c4.x_set (q := a5.heap.size) (i := 4) rfl (.inr af) c7
  have a0 := a0.oth (q := a5.heap.size) (i := 4) rfl ad c7
  have a9 : Blk bw a5.heap.size 27 [.int .i64 a1, .int .i64 a2, .int .u64 a4, .int .i64 ab, .int .i64 aa, .int .i64 0, .slice none 0 0, .int .u64 0] := a9.seti 4 rfl c7
  refine ⟨a9.cani 5 rfl rfl, Q02 fun b7 bu => ?_⟩
  have c3 := be.x_set (q := a5.heap.size) (i := 5) rfl (.inr af) bu
  have a0 := a0.oth (q := a5.heap.size) (i := 5) rfl ad bu
  have a9 : Blk b7 a5.heap.size 27 [.int .i64 a1, .int .i64 a2, .int .u64 a4, .int .i64 ab, .int .i64 aa, .int .i64 a3, .slice none 0 0, .int .u64 0] := a9.seti 5 rfl bu
  refine ⟨a9.cani 6 rfl rfl, Q02 fun bz c9 => ?_⟩
  have bb := c3.x_set (q := a5.heap.size) (i := 6) rfl (.inr af) c9
  have a0 := a0.oth (q := a5.heap.size) (i := 6) rfl ad c9
  have a9 : Blk bz a5.heap.size 27 [.int .i64 a1, .int .i64 a2, .int .u64 a4, .int .i64 ab, .int .i64 aa, .int .i64 a3, .slice a8 a7 a6, .int .u64 0] := a9.seti 6 rfl c9
  refine ⟨a9.cani 7 rfl rfl, Q02 fun ai cf => ?_⟩
  have c8 := bb.x_set (q := a5.heap.size) (i := 7) rfl (.inr af) cf
  have a0 := a0.oth (q := a5.heap.size) (i := 7) rfl ad cf
  have a9 : Blk ai a5.heap.size 27 [.int .i64 a1, .int .i64 a2, .int .u64 a4, .int .i64 ab, .int .i64 aa, .int .i64 a3, .slice a8 a7 a6, .int .u64 ac] := a9.seti 7 rfl cf
  have h := h ai (a5.heap.size) c8 (Priv.cons af a9.lt Priv.nil)
  refine h.mono fun dq ae h => ?_
  obtain ⟨ag, he, hk, h⟩ := h
  refine ⟨ag, he, ?_⟩
  have a0 := hk.blk a0 (by simp)
  have a9 := hk.blk a9 (by simp)
  refine bif_of (fun bh => ?_) (fun bh => ?_)
  ·have h := h.1 (bne_t bh)
   have ay : Ext (fun b => b = w.heap.size) ae ae := ((Ext.refl no ae)).none
   refine ⟨a0.cani 0 rfl rfl, Q02 fun ci cw => ?_⟩
   have ca := ay.x_set (q := w.heap.size) (i := 0) rfl (.inl rfl) cw
   have a0 : Blk ci w.heap.size 27 [.int .i64 0, .int .i64 0, .int .u64 0, .int .i64 0, .int .i64 0, .int .i64 0, .slice none 0 0, .int .u64 0] := a0.seti 0 rfl cw
   refine ⟨a0.cani 1 rfl rfl, Q02 fun bl df => ?_⟩
   have cc := ca.x_set (q := w.heap.size) (i := 1) rfl (.inl rfl) df
   have a0 : Blk bl w.heap.size 27 [.int .i64 0, .int .i64 0, .int .u64 0, .int .i64 0, .int .i64 0, .int .i64 0, .slice none 0 0, .int .u64 0] := a0.seti 1 rfl df
   refine ⟨a0.cani 2 rfl rfl, Q02 fun c1 cs => ?_⟩
   have ba := cc.x_set (q := w.heap.size) (i := 2) rfl (.inl rfl) cs
   have a0 : Blk c1 w.heap.size 27 [.int .i64 0, .int .i64 0, .int .u64 0, .int .i64 0, .int .i64 0, .int .i64 0, .slice none 0 0, .int .u64 0] := a0.seti 2 rfl cs
   refine ⟨a0.cani 3 rfl rfl, Q02 fun bv d7 => ?_⟩
   have cq := ba.x_set (q := w.heap.size) (i := 3) rfl (.inl rfl) d7
   have a0 : Blk bv w.heap.size 27 [.int .i64 0, .int .i64 0, .int .u64 0, .int .i64 0, .int .i64 0, .int .i64 0, .slice none 0 0, .int .u64 0] := a0.seti 3 rfl d7
   refine ⟨a0.cani 4 rfl rfl, Q02 fun ck cv => ?_⟩
   have az := cq.x_set (q := w.heap.size) (i := 4) rfl (.inl rfl) cv
   have a0 : Blk ck w.heap.size 27 [.int .i64 0, .int .i64 0, .int .u64 0, .int .i64 0, .int .i64 0, .int .i64 0, .slice none 0 0, .int .u64 0] := a0.seti 4 rfl cv
   refine ⟨a0.cani 5 rfl rfl, Q02 fun ar dd => ?_⟩
   have b5 := az.x_set (q := w.heap.size) (i := 5) rfl (.inl rfl) dd
   have a0 : Blk ar w.heap.size 27 [.int .i64 0, .int .i64 0, .int .u64 0, .int .i64 0, .int .i64 0, .int .i64 0, .slice none 0 0, .int .u64 0] := a0.seti 5 rfl dd
   refine ⟨a0.cani 6 rfl rfl, Q02 fun ap d3 => ?_⟩
   have an := b5.x_set (q := w.heap.size) (i := 6) rfl (.inl rfl) d3
   have a0 : Blk ap w.heap.size 27 [.int .i64 0, .int .i64 0, .int .u64 0, .int .i64 0, .int .i64 0, .int .i64 0, .slice none 0 0, .int .u64 0] := a0.seti 6 rfl d3
   refine ⟨a0.cani 7 rfl rfl, Q02 fun ak de => ?_⟩
   have cg := an.x_set (q := w.heap.size) (i := 7) rfl (.inl rfl) de
   have a0 : Blk ak w.heap.size 27 [.int .i64 0, .int .i64 0, .int .u64 0, .int .i64 0, .int .i64 0, .int .i64 0, .slice none 0 0, .int .u64 0] := a0.seti 7 rfl de
   refine ⟨0, 0, 0, 0, 0, 0, none, 0, 0, 0, ⟨a0.celli 0 rfl rfl, a0.celli 1 rfl rfl, a0.celli 2 rfl rfl, a0.celli 3 rfl rfl, a0.celli 4 rfl rfl, a0.celli 5 rfl rfl, a0.celli 6 rfl rfl, a0.celli 7 rfl rfl, trivial⟩, ?_⟩
   have h := h ak cg
   exact h
  have h := h.2 (bne_f bh)
  unfold Q0j.J1
  refine ⟨a1, a2, a4, ab, aa, a3, a8, a7, a6, ac, ⟨a9.celli 0 rfl rfl, a9.celli 1 rfl rfl, a9.celli 2 rfl rfl, a9.celli 3 rfl rfl, a9.celli 4 rfl rfl, a9.celli 5 rfl rfl, a9.celli 6 rfl rfl, a9.celli 7 rfl rfl, trivial⟩, ?_⟩
  refine (Q03.pure a1 a2 a4 ab aa a3 a8 a7 a6 ac).mono fun ee ww38 ⟨he, hxx⟩ => ⟨(Q03.F a1 a2 a4 ab aa a3 a8 a7 a6 ac), he, ?_⟩
  have ah := (Ext.refl no ae).trans hxx
  have a0 := a0.ext hxx id
  have a9 := a9.ext hxx id
  refine bif_of (fun b1 => ?_) (fun b1 => ?_)
  ·have h := h.1 (not_t b1)
   have cp : Ext (fun b => b = w.heap.size) ae ww38 := (ah).none
   refine ⟨a0.cani 0 rfl rfl, Q02 fun bm d2 => ?_⟩
   have aw := cp.x_set (q := w.heap.size) (i := 0) rfl (.inl rfl) d2
   have a0 : Blk bm w.heap.size 27 [.int .i64 0, .int .i64 0, .int .u64 0, .int .i64 0, .int .i64 0, .int .i64 0, .slice none 0 0, .int .u64 0] := a0.seti 0 rfl d2
   refine ⟨a0.cani 1 rfl rfl, Q02 fun aq d5 => ?_⟩
   have ce := aw.x_set (q := w.heap.size) (i := 1) rfl (.inl rfl) d5
   have a0 : Blk aq w.heap.size 27 [.int .i64 0, .int .i64 0, .int .u64 0, .int .i64 0, .int .i64 0, .int .i64 0, .slice none 0 0, .int .u64 0] := a0.seti 1 rfl d5
   refine ⟨a0.cani 2 rfl rfl, Q02 fun au cu => ?_⟩
   have bd := ce.x_set (q := w.heap.size) (i := 2) rfl (.inl rfl) cu
   have a0 : Blk au w.heap.size 27 [.int .i64 0, .int .i64 0, .int .u64 0, .int .i64 0, .int .i64 0, .int .i64 0, .slice none 0 0, .int .u64 0] := a0.seti 2 rfl cu
   refine ⟨a0.cani 3 rfl rfl, Q02 fun br db => ?_⟩
   have b9 := bd.x_set (q := w.heap.size) (i := 3) rfl (.inl rfl) db
   have a0 : Blk br w.heap.size 27 [.int .i64 0, .int .i64 0, .int .u64 0, .int .i64 0, .int .i64 0, .int .i64 0, .slice none 0 0, .int .u64 0] := a0.seti 3 rfl db
   refine ⟨a0.cani 4 rfl rfl, Q02 fun am da => ?_⟩
   have ch := b9.x_set (q := w.heap.size) (i := 4) rfl (.inl rfl) da
   have a0 : Blk am w.heap.size 27 [.int .i64 0, .int .i64 0, .int .u64 0, .int .i64 0, .int .i64 0, .int .i64 0, .slice none 0 0, .int .u64 0] := a0.seti 4 rfl da
   refine ⟨a0.cani 5 rfl rfl, Q02 fun bf cx => ?_⟩
   have cj := ch.x_set (q := w.heap.size) (i := 5) rfl (.inl rfl) cx
   have a0 : Blk bf w.heap.size 27 [.int .i64 0, .int .i64 0, .int .u64 0, .int .i64 0, .int .i64 0, .int .i64 0, .slice none 0 0, .int .u64 0] := a0.seti 5 rfl cx
   refine ⟨a0.cani 6 rfl rfl, Q02 fun bt d8 => ?_⟩
   have b3 := cj.x_set (q := w.heap.size) (i := 6) rfl (.inl rfl) d8
   have a0 : Blk bt w.heap.size 27 [.int .i64 0, .int .i64 0, .int .u64 0, .int .i64 0, .int .i64 0, .int .i64 0, .slice none 0 0, .int .u64 0] := a0.seti 6 rfl d8
   refine ⟨a0.cani 7 rfl rfl, Q02 fun aj dj => ?_⟩
   have cm := b3.x_set (q := w.heap.size) (i := 7) rfl (.inl rfl) dj
   have a0 : Blk aj w.heap.size 27 [.int .i64 0, .int .i64 0, .int .u64 0, .int .i64 0, .int .i64 0, .int .i64 0, .slice none 0 0, .int .u64 0] := a0.seti 7 rfl dj
   refine ⟨0, 0, 0, 0, 0, 0, none, 0, 0, 0, ⟨a0.celli 0 rfl rfl, a0.celli 1 rfl rfl, a0.celli 2 rfl rfl, a0.celli 3 rfl rfl, a0.celli 4 rfl rfl, a0.celli 5 rfl rfl, a0.celli 6 rfl rfl, a0.celli 7 rfl rfl, trivial⟩, ?_⟩
   have h := h aj cm
   exact h
  have h := h.2 (not_f b1)
  refine ⟨a1, a2, a4, ab, aa, a3, a8, a7, a6, ac, ⟨a9.celli 0 rfl rfl, a9.celli 1 rfl rfl, a9.celli 2 rfl rfl, a9.celli 3 rfl rfl, a9.celli 4 rfl rfl, a9.celli 5 rfl rfl, a9.celli 6 rfl rfl, a9.celli 7 rfl rfl, trivial⟩, ?_⟩
  have av : Ext (fun b => b = w.heap.size) ae ww38 := (ah).none
  refine ⟨a0.cani 0 rfl rfl, Q02 fun bg dc => ?_⟩
  have b8 := av.x_set (q := w.heap.size) (i := 0) rfl (.inl rfl) dc
  have a0 : Blk bg w.heap.size 27 [.int .i64 a1, .int .i64 0, .int .u64 0, .int .i64 0, .int .i64 0, .int .i64 0, .slice none 0 0, .int .u64 0] := a0.seti 0 rfl dc
  refine ⟨a0.cani 1 rfl rfl, Q02 fun b4 d9 => ?_⟩
  have b2 := b8.x_set (q := w.heap.size) (i := 1) rfl (.inl rfl) d9
  have a0 : Blk b4 w.heap.size 27 [.int .i64 a1, .int .i64 a2, .int .u64 0, .int .i64 0, .int .i64 0, .int .i64 0, .slice none 0 0, .int .u64 0] := a0.seti 1 rfl d9
  refine ⟨a0.cani 2 rfl rfl, Q02 fun bi d6 => ?_⟩
  have co := b2.x_set (q := w.heap.size) (i := 2) rfl (.inl rfl) d6
  have a0 : Blk bi w.heap.size 27 [.int .i64 a1, .int .i64 a2, .int .u64 a4, .int .i64 0, .int .i64 0, .int .i64 0, .slice none 0 0, .int .u64 0] := a0.seti 2 rfl d6
  refine ⟨a0.cani 3 rfl rfl, Q02 fun c5 ct => ?_⟩
  have cl := co.x_set (q := w.heap.size) (i := 3) rfl (.inl rfl) ct
  have a0 : Blk c5 w.heap.size 27 [.int .i64 a1, .int .i64 a2, .int .u64 a4, .int .i64 ab, .int .i64 0, .int .i64 0, .slice none 0 0, .int .u64 0] := a0.seti 3 rfl ct
  refine ⟨a0.cani 4 rfl rfl, Q02 fun c6 d0 => ?_⟩
  have bj := cl.x_set (q := w.heap.size) (i := 4) rfl (.inl rfl) d0
  have a0 : Blk c6 w.heap.size 27 [.int .i64 a1, .int .i64 a2, .int .u64 a4, .int .i64 ab, .int .i64 aa, .int .i64 0, .slice none 0 0, .int .u64 0] := a0.seti 4 rfl d0
  refine ⟨a0.cani 5 rfl rfl, Q02 fun bn d1 => ?_⟩
  have bx := bj.x_set (q := w.heap.size) (i := 5) rfl (.inl rfl) d1
  have a0 : Blk bn w.heap.size 27 [.int .i64 a1, .int .i64 a2, .int .u64 a4, .int .i64 ab, .int .i64 aa, .int .i64 a3, .slice none 0 0, .int .u64 0] := a0.seti 5 rfl d1
  refine ⟨a0.cani 6 rfl rfl, Q02 fun cr dh => ?_⟩
  have bc := bx.x_set (q := w.heap.size) (i := 6) rfl (.inl rfl) dh
  have a0 : Blk cr w.heap.size 27 [.int .i64 a1, .int .i64 a2, .int .u64 a4, .int .i64 ab, .int .i64 aa, .int .i64 a3, .slice a8 a7 a6, .int .u64 0] := a0.seti 6 rfl dh
  refine ⟨a0.cani 7 rfl rfl, Q02 fun al dg => ?_⟩
  have cd := bc.x_set (q := w.heap.size) (i := 7) rfl (.inl rfl) dg
  have a0 : Blk al w.heap.size 27 [.int .i64 a1, .int .i64 a2, .int .u64 a4, .int .i64 ab, .int .i64 aa, .int .i64 a3, .slice a8 a7 a6, .int .u64 ac] := a0.seti 7 rfl dg
  refine ⟨a1, a2, a4, ab, aa, a3, a8, a7, a6, ac, ⟨a0.celli 0 rfl rfl, a0.celli 1 rfl rfl, a0.celli 2 rfl rfl, a0.celli 3 rfl rfl, a0.celli 4 rfl rfl, a0.celli 5 rfl rfl, a0.celli 6 rfl rfl, a0.celli 7 rfl rfl, trivial⟩, ?_⟩
  have h := h al cd
  exact h

theorem Q0j.go (a1 : Option Addr) (a0 a2 : Nat) {R : RW} {w : World} (h : Q0j.N a1 a0 a2 R w) : Calls Try.prog 47 #[.slice a1 a0 a2] w fun e w' => ∃ v, e = .returned v ∧ R v w' := Q0j.ok a1 a0 a2 (Q0j.up a1 a0 a2 h)
def Q0q.M (ag av b4 b8 b6 ar : Int) (au : Option Addr) (aq ao : Nat) (b7 an ak ap b2 b5 ai : Int) (ae : Option Addr) (af am : Nat) (b3 : Int) (R : RW) (w : World) : Prop :=
 thenW (w.alloc (.cells #[.int .i64 ag, .int .i64 av, .int .u64 b4, .int .i64 b8, .int .i64 b6, .int .i64 ar, .slice au aq ao, .int .u64 b7] 27)) fun a3 =>
 thenW (a3.alloc (.cells #[.int .i64 an, .int .i64 ak, .int .u64 ap, .int .i64 b2, .int .i64 b5, .int .i64 ai, .slice ae af am, .int .u64 b3] 27)) fun a0 =>
 ∃ (a1 : Int), a0.cell? ((blk w.heap.size).add 0) = some (.int .i64 a1) ∧
 ∃ (a2 : Int), a0.cell? ((blk a3.heap.size).add 0) = some (.int .i64 a2) ∧
 bif a1 == a2 then (
 ∃ (a9 : Int), a0.cell? ((blk w.heap.size).add 1) = some (.int .i64 a9) ∧
 ∃ (a5 : Int), a0.cell? ((blk a3.heap.size).add 1) = some (.int .i64 a5) ∧
 bif a9 == a5 then (
 ∃ (al : Int), a0.cell? ((blk w.heap.size).add 2) = some (.int .u64 al) ∧
 ∃ (aj : Int), a0.cell? ((blk a3.heap.size).add 2) = some (.int .u64 aj) ∧
 bif al == aj then (
 ∃ (ay aw : Int), cellsAt a0 ((blk w.heap.size).add 3) [.int .i64 ay, .int .i64 aw] 0 ∧
 ∃ (az b1 : Int), cellsAt a0 ((blk a3.heap.size).add 3) [.int .i64 az, .int .i64 b1] 0 ∧
 ∃ (bb : Bool), (binOp .eql 24 (.agg #[.int .i64 ay, .int .i64 aw]) (.agg #[.int .i64 az, .int .i64 b1])).run Try.prog a0 = .ok (.bool bb) a0 ∧
 bif bb then (
 ∃ (ac : Int), a0.cell? ((blk w.heap.size).add 5) = some (.int .i64 ac) ∧
 ∃ (aa : Int), a0.cell? ((blk a3.heap.size).add 5) = some (.int .i64 aa) ∧
 bif ac == aa then (
 ∃ (ax : Int), a0.cell? ((blk w.heap.size).add 7) = some (.int .u64 ax) ∧
 ∃ (b0 : Int), a0.cell? ((blk a3.heap.size).add 7) = some (.int .u64 b0) ∧
 bif ax == b0 then (
 ∃ (ad : Option Addr) (a4 a8 : Nat), a0.cell? ((blk w.heap.size).add 6) = some (.slice ad a4 a8) ∧
 ∃ (a7 : Option Addr) (ab a6 : Nat), a0.cell? ((blk a3.heap.size).add 6) = some (.slice a7 ab a6) ∧
 Calls Try.prog 11 #[.slice ad a4 a8, .slice a7 ab a6] a0 fun ba b9 => ∃ (ah : Bool), ba = .returned (.bool ah) ∧
 R (.bool ah) b9) else (
 R (.bool false) a0)) else (
 R (.bool false) a0)) else (
 R (.bool false) a0)) else (
 R (.bool false) a0)) else (
 R (.bool false) a0)) else (
 R (.bool false) a0)

theorem Q0q.ok (a2 ac af aj ah aa : Int) (ab : Option Addr) (a9 a8 : Nat) (ai a6 a4 a7 ad ag a3 : Int) (a0 : Option Addr) (a1 a5 : Nat) (ae : Int) {R : RW} {w : World} (h : Q0q.M a2 ac af aj ah aa ab a9 a8 ai a6 a4 a7 ad ag a3 a0 a1 a5 ae R w) : Calls Try.prog 35 #[.agg #[.int .i64 a2, .int .i64 ac, .int .u64 af, .int .i64 aj, .int .i64 ah, .int .i64 aa, .slice ab a9 a8, .int .u64 ai], .agg #[.int .i64 a6, .int .i64 a4, .int .u64 a7, .int .i64 ad, .int .i64 ag, .int .i64 a3, .slice a0 a1 a5, .int .u64 ae]] w fun e w' => ∃ v, e = .returned v ∧ R v w' :=
  Q08 follows (H := []) (args := [.agg #[.int .i64 a2, .int .i64 ac, .int .u64 af, .int .i64 aj, .int .i64 ah, .int .i64 aa, .slice ab a9 a8, .int .u64 ai], .agg #[.int .i64 a6, .int .i64 a4, .int .u64 a7, .int .i64 ad, .int .i64 ag, .int .i64 a3, .slice a0 a1 a5, .int .u64 ae]]) (cast (by kernel_rfl) h)

def Q0q.N (a1 a6 ac al aj a7 : Int) (ai : Option Addr) (ah ag : Nat) (ak a4 a3 a5 a9 ad a2 : Int) (a8 : Option Addr) (aa af : Nat) (ab : Int) (R : RW) (w : World) : Prop :=
 (a1 = a4 →
 (a6 = a3 →
 (ac = a5 →
 (al = a9 ∧ aj = ad →
 (a7 = a2 →
 (ak = ab →
 ∀ (a0 : World), Ext no w a0 →
 Calls Try.prog 11 #[.slice ai ah ag, .slice a8 aa af] a0 fun am an => ∃ (ae : Bool), am = .returned (.bool ae) ∧
 R (.bool ae) an) ∧
 (ak ≠ ab →
 ∀ (a0 : World), Ext no w a0 →
 R (.bool false) a0)) ∧
 (a7 ≠ a2 →
 ∀ (a0 : World), Ext no w a0 →
 R (.bool false) a0)) ∧
 (¬ (al = a9 ∧ aj = ad) →
 ∀ (a0 : World), Ext no w a0 →
 R (.bool false) a0)) ∧
 (ac ≠ a5 →
 ∀ (a0 : World), Ext no w a0 →
 R (.bool false) a0)) ∧
 (a6 ≠ a3 →
 ∀ (a0 : World), Ext no w a0 →
 R (.bool false) a0)) ∧
 (a1 ≠ a4 →
 ∀ (a0 : World), Ext no w a0 →
 R (.bool false) a0)

theorem Q0q.up (a2 ab ai ak aj ac : Int) (ad : Option Addr) (a9 a7 : Nat) (al a5 a6 a8 aa ae a4 : Int) (a0 : Option Addr) (a1 a3 : Nat) (ah : Int) {R : RW} {w : World} (h : Q0q.N a2 ab ai ak aj ac ad a9 a7 al a5 a6 a8 aa ae a4 a0 a1 a3 ah R w) : Q0q.M a2 ab ai ak aj ac ad a9 a7 al a5 a6 a8 aa ae a4 a0 a1 a3 ah R w := by
  unfold Q0q.M
  unfold Q0q.N at h
  refine Q02 fun b2 b0 => ?_
  have am := Blk.of_new b0
  have b4 := ((Ext.refl no w)).size
  have ap := (Ext.refl no w).x_alloc b0
  refine Q02 fun ag au => ?_
  have an := Blk.of_new au
  have b5 := (ap).size
  have az := Nat.ne_of_lt am.lt
  have am := am.x_alloc au
  have af := ap.x_alloc au
  refine ⟨a2, am.celli 0 rfl rfl, ?_⟩
  refine ⟨a5, an.celli 0 rfl rfl, ?_⟩
  refine bif_fo (fun ay => ?_) (fun ay => ?_)
  ·have h := h.2 (beq_f ay)
   have h := h ag af
   exact h
  have h := h.1 (beq_t ay)
  refine ⟨ab, am.celli 1 rfl rfl, ?_⟩
  refine ⟨a6, an.celli 1 rfl rfl, ?_⟩
  refine bif_fo (fun av => ?_) (fun av => ?_)
  ·have h := h.2 (beq_f av)
   have h := h ag af
   exact h
  have h := h.1 (beq_t av)
  refine ⟨ai, am.celli 2 rfl rfl, ?_⟩
  refine ⟨a8, an.celli 2 rfl rfl, ?_⟩
  refine bif_fo (fun ar => ?_) (fun ar => ?_)
  ·have h := h.2 (beq_f ar)
   have h := h ag af
   exact h
  have h := h.1 (beq_t ar)
  refine ⟨ak, aj, ⟨am.celli 3 rfl rfl, am.celli 4 rfl rfl, trivial⟩, ?_⟩
  refine ⟨aa, ae, ⟨an.celli 3 rfl rfl, an.celli 4 rfl rfl, trivial⟩, ?_⟩
  refine ⟨_, Q4i ak aj aa ae _, ?_⟩
  refine bif_fo (fun ax => ?_) (fun ax => ?_)
  ·have h := h.2 (of_decide_eq_false ax)
   have h := h ag af
   exact h
  have h := h.1 (of_decide_eq_true ax)
  refine ⟨ac, am.celli 5 rfl rfl, ?_⟩
  refine ⟨a4, an.celli 5 rfl rfl, ?_⟩
  refine bif_fo (fun aq => ?_) (fun aq => ?_)
  ·have h := h.2 (beq_f aq)
   have h := h ag af
   exact h
  have h := h.1 (beq_t aq)
  refine ⟨al, am.celli 7 rfl rfl, ?_⟩
  refine ⟨ah, an.celli 7 rfl rfl, ?_⟩
  refine bif_fo (fun aw => ?_) (fun aw => ?_)
  ·have h := h.2 (beq_f aw)
   have h := h ag af
   exact h
  have h := h.1 (beq_t aw)
  refine ⟨ad, a9, a7, am.celli 6 rfl rfl, ?_⟩
  refine ⟨a0, a1, a3, an.celli 6 rfl rfl, ?_⟩
  have h := h ag af
  refine h.mono fun b1 b3 h => ?_
  obtain ⟨ao, he, h⟩ := h
  refine ⟨ao, he, ?_⟩
  exact h

theorem Q0q.go (a2 ac af aj ah aa : Int) (ab : Option Addr) (a9 a8 : Nat) (ai a6 a4 a7 ad ag a3 : Int) (a0 : Option Addr) (a1 a5 : Nat) (ae : Int) {R : RW} {w : World} (h : Q0q.N a2 ac af aj ah aa ab a9 a8 ai a6 a4 a7 ad ag a3 a0 a1 a5 ae R w) : Calls Try.prog 35 #[.agg #[.int .i64 a2, .int .i64 ac, .int .u64 af, .int .i64 aj, .int .i64 ah, .int .i64 aa, .slice ab a9 a8, .int .u64 ai], .agg #[.int .i64 a6, .int .i64 a4, .int .u64 a7, .int .i64 ad, .int .i64 ag, .int .i64 a3, .slice a0 a1 a5, .int .u64 ae]] w fun e w' => ∃ v, e = .returned v ∧ R v w' := Q0q.ok a2 ac af aj ah aa ab a9 a8 ai a6 a4 a7 ad ag a3 a0 a1 a5 ae (Q0q.up a2 ac af aj ah aa ab a9 a8 ai a6 a4 a7 ad ag a3 a0 a1 a5 ae h)
theorem Q0q.run (a2 ac af aj ah aa : Int) (ab : Option Addr) (a9 a8 : Nat) (ai a6 a4 a7 ad ag a3 : Int) (a0 : Option Addr) (a1 a5 : Nat) (ae : Int) {V : Value} {Q : World → Prop} {w : World} (h : Q0q.N a2 ac af aj ah aa ab a9 a8 ai a6 a4 a7 ad ag a3 a0 a1 a5 ae (fun v w' => v = V ∧ Q w') w) : Calls Try.prog 35 #[.agg #[.int .i64 a2, .int .i64 ac, .int .u64 af, .int .i64 aj, .int .i64 ah, .int .i64 aa, .slice ab a9 a8, .int .u64 ai], .agg #[.int .i64 a6, .int .i64 a4, .int .u64 a7, .int .i64 ad, .int .i64 ag, .int .i64 a3, .slice a0 a1 a5, .int .u64 ae]] w (Ret V Q) := (Q0q.go a2 ac af aj ah aa ab a9 a8 ai a6 a4 a7 ad ag a3 a0 a1 a5 ae h).mono fun e w' ⟨v, he, hv, hq⟩ => ⟨by rw [he, hv], hq⟩

section
variable {w w' : World} {a : Option Addr} {c N p : Nat} {bs : List UInt8} {k : Int}
theorem Q4Z {t s : Int} (h0 : -9223372036854775808 ≤ t) (h1 : t < 9223372036854775808) (hs : s < 9223372036854775808) :
    Calls Try.prog 95 #[.agg #[.int .i64 t, .int .i64 s]] w (fun e w' => ∃ a' c', e = .returned (.slice a' (stampL t s).length c') ∧ OwnB w.heap.size w' a' c' (stampL t s) ∧ Ext no w w') := by
  refine (Q0F.go _ _ (R := fun v w' => ∃ a' c', v = (.slice a' (stampL t s).length c') ∧ OwnB w.heap.size w' a' c' (stampL t s) ∧ Ext no w w') ?_).mono fun e w' ⟨v, he, a, c, hv, hw⟩ => ⟨a, c, by rw [he, hv], hw⟩
  unfold Q0F.N
  intro w4 p5 X4 hp
  have hp := hp.one
  have e1 : IntKind.u64.wrap (if (0 : Int) > s then 0 else s) = ((s.toNat : Nat) : Int) := by split <;> rw [wu64 (by omega) (by omega)] <;> omega
  rw [e1]
  have g1 := W.numL_le (zig t); have g2 := W.numL_le s.toNat
  refine (Q3R h0 h1).mono fun e w8 ⟨a8, c8, he, hO, X8⟩ => ⟨a8, _, c8, he, X8.kept, ?_⟩
  refine (W.rNum_spec s.toNat w8 (by omega)).mono fun e w11 ⟨a11, c11, he, hO2, X11⟩ => ⟨a11, _, c11, he, ?_⟩
  obtain ⟨a', c', w13, hr, hB, Y, _, _⟩ := app (w0 := w) hO (X4.trans X8) X4.size X8.size X11 (xc := c11) hO2.row (by omega)
  exact ⟨a', _, c', w13, hr, a', c', rfl, OwnB.up hB X4.size, Y⟩
theorem Q4A {e : Ent} (hf : Q0u e = true → e.fit) {ba : Option Addr} {bc : Nat} (hb : RowAt w ba (bytesV e.body)) :
    Calls Try.prog 84 #[entV e ba bc] w (fun x w' => Ext no w w' ∧ ((Q0u e = false ∧ x = .returned (.tuple #[.slice none 0 0, .int .i64 1])) ∨ (Q0u e = true ∧ ∃ a' c', x = .returned (.tuple #[.slice a' (textL e).length c', .int .i64 0]) ∧ OwnB w.heap.size w' a' c' (textL e)))) := by
  refine (Q0p.go e.w e.i e.pv e.t e.tw e.ep ba e.body.length bc e.sg (R := fun v w' => Ext no w w' ∧ ((Q0u e = false ∧ v = (.tuple #[.slice none 0 0, .int .i64 1])) ∨ (Q0u e = true ∧ ∃ a' c', v = (.tuple #[.slice a' (textL e).length c', .int .i64 0]) ∧ OwnB w.heap.size w' a' c' (textL e)))) ?_).mono fun x w' ⟨v, he, hx, hv⟩ => ⟨hx, hv.imp (fun ⟨h1, h2⟩ => ⟨h1, by rw [he, h2]⟩) fun ⟨h1, a, c, h2, h3⟩ => ⟨h1, a, c, by rw [he, h2], h3⟩⟩
  unfold Q0p.N
  rw [Q1z]
  refine ⟨fun h w10 X => ⟨X, .inl ⟨h, rfl⟩⟩, fun h w9 p X9 hp => ?_⟩
  have hp := hp.one
  have hf := hf h
  obtain ⟨h1, h2, h3, h4, h5, h6, h7, h8, h9, h10, h11⟩ := (Q19 e).1 h
  have f1 := hf.pv0; have f2 := hf.pv1
  rw [wu64 (n := e.w) h1 (by omega), wu64 (n := e.i) h3 (by omega), ← Int.toNat_of_nonneg h1, ← Int.toNat_of_nonneg h3, ← Int.toNat_of_nonneg f1]
  have g1 := W.numL_le e.w.toNat; have g2 := W.numL_le e.i.toNat; have g3 := W.numL_le e.pv.toNat; have g4 := Q2U e.t e.tw; have g5 := W.numL_le (zig e.ep); have g6 := W.numL_le e.body.length
  refine (W.rNum_spec e.w.toNat w9 (by omega)).mono fun x w17 ⟨a1, c1, he, hB, X17⟩ => ⟨a1, _, c1, he, X17.kept, ?_⟩
  have Y := X9.trans X17
  have hN := X17.size
  have h0 := X9.size
  refine (W.rNum_spec e.i.toNat w17 (by omega)).mono fun x w20 ⟨a2, c2, he, hO, X20⟩ => ⟨a2, _, c2, he, X20.kept, ?_⟩
  obtain ⟨a3, c3, w22, hr, hB, Y, XA, hN⟩ := app hB Y h0 hN X20 (xc := c2) hO.row (by (try simp only [List.length_append]) <;> omega)
  refine ⟨a3, _, c3, w22, hr, keep1 XA (by omega), ?_⟩
  refine (W.rNum_spec e.pv.toNat w22 (by omega)).mono fun x w25 ⟨a2, c2, he, hO, X25⟩ => ⟨a2, _, c2, he, X25.kept, ?_⟩
  obtain ⟨a3, c3, w27, hr, hB, Y, XA, hN⟩ := app hB Y h0 hN X25 (xc := c2) hO.row (by (try simp only [List.length_append]) <;> omega)
  refine ⟨a3, _, c3, w27, hr, keep1 XA (by omega), ?_⟩
  refine (Q4Z (by omega) (by omega) (by omega)).mono fun x w30 ⟨a2, c2, he, hO, X30⟩ => ⟨a2, _, c2, he, X30.kept, ?_⟩
  obtain ⟨a3, c3, w32, hr, hB, Y, XA, hN⟩ := app hB Y h0 hN X30 (xc := c2) hO.row (by (try simp only [List.length_append]) <;> omega)
  refine ⟨a3, _, c3, w32, hr, keep1 XA (by omega), ?_⟩
  refine (Q3R (by omega) (by omega)).mono fun x w35 ⟨a2, c2, he, hO, X35⟩ => ⟨a2, _, c2, he, X35.kept, ?_⟩
  obtain ⟨a3, c3, w37, hr, hB, Y, XA, hN⟩ := app hB Y h0 hN X35 (xc := c2) hO.row (by (try simp only [List.length_append]) <;> omega)
  refine ⟨a3, _, c3, w37, hr, keep1 XA (by omega), ?_⟩
  refine (Q1J (hb.no Y) (by omega)).mono fun x w40 ⟨a2, c2, he, hO, X40⟩ => ⟨a2, _, c2, he, ?_⟩
  obtain ⟨a3, c3, w42, hr, hB, Y, XA, hN⟩ := app hB Y h0 hN X40 (xc := c2) hO.row (by (try simp only [List.length_append]) <;> omega)
  exact ⟨a3, _, c3, w42, hr, Y, .inr ⟨h, a3, c3, rfl, OwnB.up hB h0⟩⟩
theorem Q3N {e : Ent} (hf : Q0u e = true → e.fit) {ba : Option Addr} {bc : Nat} (hb : RowAt w ba (bytesV e.body)) :
    Calls Try.prog 64 #[entV e ba bc] w (fun x w' => Ext no w w' ∧ ((Q0u e = false ∧ x = .returned (.tuple #[.slice none 0 0, .int .i64 1])) ∨ (Q0u e = true ∧ ∃ a' c', x = .returned (.tuple #[.slice a' (bytesL e).length c', .int .i64 0]) ∧ OwnB w.heap.size w' a' c' (bytesL e)))) := by
  refine (Q0m.go e.w e.i e.pv e.t e.tw e.ep ba e.body.length bc e.sg (R := fun v w' => Ext no w w' ∧ ((Q0u e = false ∧ v = (.tuple #[.slice none 0 0, .int .i64 1])) ∨ (Q0u e = true ∧ ∃ a' c', v = (.tuple #[.slice a' (bytesL e).length c', .int .i64 0]) ∧ OwnB w.heap.size w' a' c' (bytesL e)))) ?_).mono fun x w' ⟨v, he, hx, hv⟩ => ⟨hx, hv.imp (fun ⟨h1, h2⟩ => ⟨h1, by rw [he, h2]⟩) fun ⟨h1, a, c, h2, h3⟩ => ⟨h1, a, c, by rw [he, h2], h3⟩⟩
  unfold Q0m.N
  intro w9 p X9 hp
  refine (Q4A hf (hb.no X9)).mono fun x w14 ⟨X14, hor⟩ => ?_
  rcases hor with ⟨h, he⟩ | ⟨h, a1, c1, he, hB⟩
  · exact ⟨_, _, _, _, he, X14.kept, fun _ => ⟨X9.trans X14, .inl ⟨h, rfl⟩⟩, fun h => absurd h (by decide)⟩
  · have hf := hf h
    have f3 := hf.sg0; have f4 := hf.sg1
    have hbl := ((Q19 e).1 h).2.2.2.2.2.2.2.2.2.1
    have htl := Q3z e
    have g1 := W.numL_le e.sg.toNat
    rw [← Int.toNat_of_nonneg f3]
    refine ⟨_, _, _, _, he, X14.kept, fun h => absurd rfl h, fun _ => ?_⟩
    refine (W.rNum_spec e.sg.toNat w14 (by omega)).mono fun x w18 ⟨a2, c2, he, hO, X18⟩ => ⟨a2, _, c2, he, ?_⟩
    obtain ⟨a3, c3, w20, hr, hB, Y, XA, hN⟩ := app hB (X9.trans X14) X9.size X14.size X18 (xc := c2) hO.row (by omega)
    exact ⟨a3, _, c3, w20, hr, Y, .inr ⟨h, a3, c3, rfl, OwnB.up hB X9.size⟩⟩
theorem Q5j (h : RdR w p N bs k) (hl : bs.length < 1000000) :
    Calls Try.prog 85 #[.pointer (some (blk p))] w (GivesW (.agg #[.int .i64 (stampR (bs, k)).1.1, .int .i64 (stampR (bs, k)).1.2]) fun w' => RdR w' p N (stampR (bs, k)).2.1 (stampR (bs, k)).2.2 ∧ Ext (fun b => b = p) w w') := by
  refine (Q0v.run _ (Q := fun w' => RdR w' p N (stampR (bs, k)).2.1 (stampR (bs, k)).2.2 ∧ Ext (fun b => b = p) w w') ?_)
  unfold Q0v.N
  intro w2 p3 X2 hp
  have hp := hp.one
  have hpp : p < p3 := by have := h.lt; omega
  refine (Q3n (h.no X2) hl).mono fun e w6 ⟨he, h6, X6⟩ => ⟨_, he, keep1 X6 (by omega), ?_⟩
  have hlen := Q2K (bs, k)
  have hc := W.rCount_spec h6 (by simp only at hlen; omega) (m := 7) (by decide) (by decide)
  refine hc.mono fun e w9 ⟨he, h9, X9⟩ => ⟨_, he, keep1 X9 (by omega), fun w11 X11 => ?_⟩
  have h11 := h9.up X11 fun b hb => by omega
  exact ⟨rfl, h11, (((X2.none.trans X6).trans X9)).then X11 fun b hb => .inr (by omega)⟩
def entT (s : RS) : Ent := { entR s with ep := if (entR s).ep < -1 ∨ (entR s).ep > 20 then -9 else (entR s).ep }
theorem Q24 (h : RdR w p N bs k) (hl : bs.length < 1000000) :
    Calls Try.prog 66 #[.pointer (some (blk p))] w (fun e w' => ∃ a' c', e = .returned (entV (entT (bs, k)) a' c') ∧ (entT (bs, k)).body.length ≤ c' ∧ RowAt w' a' (bytesV (entT (bs, k)).body) ∧ (bytesV (entT (bs, k)).body ≠ [] → ∀ ad, a' = some ad → ad.block < N) ∧ RdR w' p N (entR7 (bs, k)).1 (entR7 (bs, k)).2 ∧ Ext (fun b => b = p) w w') := by
  refine (Q0h.go _ (R := fun v w' => ∃ a' c', v = (entV (entT (bs, k)) a' c') ∧ (entT (bs, k)).body.length ≤ c' ∧ RowAt w' a' (bytesV (entT (bs, k)).body) ∧ (bytesV (entT (bs, k)).body ≠ [] → ∀ ad, a' = some ad → ad.block < N) ∧ RdR w' p N (entR7 (bs, k)).1 (entR7 (bs, k)).2 ∧ Ext (fun b => b = p) w w') ?_).mono fun e w' ⟨v, he, a, c, hv, hw⟩ => ⟨a, c, by rw [he, hv], hw⟩
  unfold Q0h.N
  intro w11 p12 p13 Y11' hp
  obtain ⟨hp12, hp13⟩ := hp.two
  have hpl := h.lt
  have Y11 : Ext (fun b => b = p) w w11 := Y11'.none
  obtain ⟨L1, L2, L3, L4, L5, L6, L7⟩ := Q4p (bs, k)
  simp only at L1 L2 L3 L4 L5 L6 L7
  have new : ∀ {w1 w2 : World}, Ext (fun b => b = p) w w1 → Ext (fun b => b = p) w1 w2 → Ext (fun b => b = p) w w2 := fun h1 h2 => h1.trans h2
  have new13 : ∀ {w1 w2 : World}, Ext (fun b => b = p) w w1 → Ext (fun b => b = p13) w1 w2 → Ext (fun b => b = p) w w2 := fun h1 h2 => h1.then h2 fun b hb => .inr (by omega)
  have new1213 : ∀ {w1 w2 : World}, Ext (fun b => b = p) w w1 → Ext (fun b => b = p12 ∨ b = p13) w1 w2 → Ext (fun b => b = p) w w2 := fun h1 h2 => h1.then h2 fun b hb => .inr (by omega)
  have up13 : ∀ b, b = p13 → p < b := fun b hb => by omega
  have k12 : ¬ (p12 = p) := by omega
  have k13 : ¬ (p13 = p) := by omega
  refine (W.rCount_spec (h.no Y11') hl (m := 7) (by decide) (by decide)).mono fun e w16 ⟨he, hr16, X16⟩ => ⟨_, he, keep2 X16 k12 k13, fun w17 X17 => ?_⟩
  refine (W.rCount_spec (bs := (entR1 (bs, k)).1) (k := (entR1 (bs, k)).2) (hr16.up X17 up13) (by omega) (m := 199) (by decide) (by decide)).mono fun e w20 ⟨he, hr20, X20⟩ => ⟨_, he, keep2 X20 k12 k13, fun w21 X21 => ?_⟩
  refine (W.rRNum_spec (bs := (entR2 (bs, k)).1) (k := (entR2 (bs, k)).2) (hr20.up X21 up13) (by omega)).mono fun e w24 ⟨he, hr24, X24⟩ => ⟨_, he, keep2 X24 k12 k13, fun w25 X25 => ?_⟩
  refine (Q5j (bs := (entR3 (bs, k)).1) (k := (entR3 (bs, k)).2) (hr24.up X25 up13) (by omega)).mono fun e w29 ⟨he, hr29, X29⟩ => ⟨_, _, he, keep2 X29 k12 k13, fun w31 X31 => ?_⟩
  refine (Q3n (bs := (entR4 (bs, k)).1) (k := (entR4 (bs, k)).2) (hr29.up X31 up13) (by omega)).mono fun e w34 ⟨he, hr34, X34⟩ => ⟨_, he, keep2 X34 k12 k13, ?_⟩
  refine ⟨fun hn w37 XX => ?_, fun hn => ⟨fun hn2 w55 XX => ?_, fun hn2 w35 XX => ?_⟩⟩
  · skip
    have Y34 := new (new13 (new (new13 (new (new13 (new (new13 (new Y11 X16) X17) X20) X21) X24) X25) X29) X31) X34
    refine (Q18 (bs := (entR5 (bs, k)).1) (k := (entR5 (bs, k)).2) (hr34.up XX up13) (by omega) (m := 1100) (by decide) (by decide)).mono fun e w40 ⟨ba, bc, he, hle, hrow, hbp, hr40, X40⟩ => ⟨ba, _, bc, he, keep2 X40 k12 k13, fun w41 X41 => ?_⟩
    refine (W.rRNum_spec (bs := (entR6 (bs, k)).1) (k := (entR6 (bs, k)).2) (hr40.up X41 up13) (by omega)).mono fun e w44 ⟨he, hr44, X44⟩ => ⟨_, he, keep2 X44 k12 k13, fun w53 X53 => ?_⟩
    refine ⟨ba, bc, ?_, hle, ?_, hbp, hr44.up X53 fun b hb => by omega, new1213 (new (new13 (new (new13 Y34 XX) X40) X41) X44) X53⟩
    · unfold entT
      first
        | rw [if_pos (.inl (show (entR (bs, k)).ep < -1 from ‹_›))]
        | rw [if_pos (.inr (show (entR (bs, k)).ep > 20 from ‹_›))]
        | rw [if_neg (show ¬ ((entR (bs, k)).ep < -1 ∨ (entR (bs, k)).ep > 20) from fun h => h.elim (fun h => absurd hn (Int.not_le.2 h)) (fun h => absurd hn2 (Int.not_le.2 h)))]
      rfl
    · refine ((hrow.ext' X41 fun h0 ad ha hb => ?_).ext' X44 fun h0 ad ha hb => ?_).ext' X53 fun h0 ad ha hb => ?_
      · have := hbp h0 ad ha; have := h.1; omega
      · have := hbp h0 ad ha; have := h.1; omega
      · have := hbp h0 ad ha; have := h.1; omega
  · skip
    have Y34 := new (new13 (new (new13 (new (new13 (new (new13 (new Y11 X16) X17) X20) X21) X24) X25) X29) X31) X34
    refine (Q18 (bs := (entR5 (bs, k)).1) (k := (entR5 (bs, k)).2) (hr34.up XX up13) (by omega) (m := 1100) (by decide) (by decide)).mono fun e w40 ⟨ba, bc, he, hle, hrow, hbp, hr40, X40⟩ => ⟨ba, _, bc, he, keep2 X40 k12 k13, fun w41 X41 => ?_⟩
    refine (W.rRNum_spec (bs := (entR6 (bs, k)).1) (k := (entR6 (bs, k)).2) (hr40.up X41 up13) (by omega)).mono fun e w44 ⟨he, hr44, X44⟩ => ⟨_, he, keep2 X44 k12 k13, fun w53 X53 => ?_⟩
    refine ⟨ba, bc, ?_, hle, ?_, hbp, hr44.up X53 fun b hb => by omega, new1213 (new (new13 (new (new13 Y34 XX) X40) X41) X44) X53⟩
    · unfold entT
      first
        | rw [if_pos (.inl (show (entR (bs, k)).ep < -1 from ‹_›))]
        | rw [if_pos (.inr (show (entR (bs, k)).ep > 20 from ‹_›))]
        | rw [if_neg (show ¬ ((entR (bs, k)).ep < -1 ∨ (entR (bs, k)).ep > 20) from fun h => h.elim (fun h => absurd hn (Int.not_le.2 h)) (fun h => absurd hn2 (Int.not_le.2 h)))]
      rfl
    · refine ((hrow.ext' X41 fun h0 ad ha hb => ?_).ext' X44 fun h0 ad ha hb => ?_).ext' X53 fun h0 ad ha hb => ?_
      · have := hbp h0 ad ha; have := h.1; omega
      · have := hbp h0 ad ha; have := h.1; omega
      · have := hbp h0 ad ha; have := h.1; omega
  · skip
    have Y34 := new (new13 (new (new13 (new (new13 (new (new13 (new Y11 X16) X17) X20) X21) X24) X25) X29) X31) X34
    refine (Q18 (bs := (entR5 (bs, k)).1) (k := (entR5 (bs, k)).2) (hr34.up XX up13) (by omega) (m := 1100) (by decide) (by decide)).mono fun e w40 ⟨ba, bc, he, hle, hrow, hbp, hr40, X40⟩ => ⟨ba, _, bc, he, keep2 X40 k12 k13, fun w41 X41 => ?_⟩
    refine (W.rRNum_spec (bs := (entR6 (bs, k)).1) (k := (entR6 (bs, k)).2) (hr40.up X41 up13) (by omega)).mono fun e w44 ⟨he, hr44, X44⟩ => ⟨_, he, keep2 X44 k12 k13, fun w53 X53 => ?_⟩
    refine ⟨ba, bc, ?_, hle, ?_, hbp, hr44.up X53 fun b hb => by omega, new1213 (new (new13 (new (new13 Y34 XX) X40) X41) X44) X53⟩
    · unfold entT
      first
        | rw [if_pos (.inl (show (entR (bs, k)).ep < -1 from ‹_›))]
        | rw [if_pos (.inr (show (entR (bs, k)).ep > 20 from ‹_›))]
        | rw [if_neg (show ¬ ((entR (bs, k)).ep < -1 ∨ (entR (bs, k)).ep > 20) from fun h => h.elim (fun h => absurd hn (Int.not_le.2 h)) (fun h => absurd hn2 (Int.not_le.2 h)))]
      rfl
    · refine ((hrow.ext' X41 fun h0 ad ha hb => ?_).ext' X44 fun h0 ad ha hb => ?_).ext' X53 fun h0 ad ha hb => ?_
      · have := hbp h0 ad ha; have := h.1; omega
      · have := hbp h0 ad ha; have := h.1; omega
      · have := hbp h0 ad ha; have := h.1; omega
theorem Q3p (s : RS) : Q0u (entT s) = Q0u (entR s) ∧ (Q0u (entR s) = true → entT s = entR s) := by
  unfold entT
  by_cases h : (entR s).ep < -1 ∨ (entR s).ep > 20
  · rw [if_pos h]
    have h1 : Q0u { entR s with ep := -9 } = false := decide_eq_false (by show ¬ (_ ∧ _ ∧ _ ∧ _ ∧ (-1 : Int) ≤ -9 ∧ _); omega)
    have h2 : Q0u (entR s) = false := decide_eq_false (by omega)
    rw [h1, h2]
    exact ⟨rfl, fun h => by cases h⟩
  · rw [if_neg h]; exact ⟨rfl, fun _ => rfl⟩
theorem rRead_spec (h : RowAt w a (bytesV bs)) (hc : bs.length ≤ c) (hl : bs.length < 1000000) :
    Calls Try.prog 47 #[.slice a bs.length c] w (fun e w' => ∃ a' c', e = .returned (.tuple #[entV (readE bs).1 a' c', .int .i64 (readE bs).2]) ∧ RowAt w' a' (bytesV (readE bs).1.body) ∧ Ext no w w') := by
  refine (Q0j.go _ _ _ (R := fun v w' => ∃ a' c', v = (.tuple #[entV (readE bs).1 a' c', .int .i64 (readE bs).2]) ∧ RowAt w' a' (bytesV (readE bs).1.body) ∧ Ext no w w') ?_).mono fun e w' ⟨v, he, a, c, hv, hw⟩ => ⟨a, c, by rw [he, hv], hw⟩
  unfold Q0j.N
  intro w3 q4 p5 X3 hq hq1 hq2 hp5
  have hp5 := hp5.one
  have hR : RdR w3 q4 w.heap.size bs 0 := ⟨hq1, a, c, hq, hc, h.no X3, fun h0 ad ha => by exact h.lt (fun e => h0 e) ha⟩
  refine (Q24 hR hl).mono fun e w15 ⟨ba, bc, he, hle, hrow, hbp, hr15, X15⟩ => ⟨_, _, _, _, _, _, _, _, _, _, he, keep1 X15 (by omega), fun w24 p25 X24 hp25 => ?_⟩
  have hp25 := hp25.one
  have Y24 : Ext no w w24 := (X3.then X15 fun b hb => .inr (by omega)).trans X24
  refine (W.rDone_spec (hr15.no X24)).mono fun e w28 ⟨he, hw⟩ => ⟨_, he, by subst hw; exact Keep.refl _ _, ?_⟩
  subst hw
  obtain ⟨g1, g2⟩ := Q3p (bs, 0)
  have new5 : ∀ {w1 w2 : World}, Ext no w w1 → Ext (fun b => b = p5) w1 w2 → Ext no w w2 := fun h1 h2 => h1.then h2 fun b hb => .inr (by omega)
  have hF : Q03.F (entT (bs, 0)).w (entT (bs, 0)).i (entT (bs, 0)).pv (entT (bs, 0)).t (entT (bs, 0)).tw (entT (bs, 0)).ep ba (entT (bs, 0)).body.length bc (entT (bs, 0)).sg = Q0u (entR (bs, 0)) := (Q1z _ _ _).trans g1
  rw [hF]
  refine ⟨fun hd w37 X37 => ?_, fun hd => ⟨fun hr w49 X49 => ?_, fun hr w57 X57 => ?_⟩⟩
  · have : readE bs = (Ent.zero, doneR (entR7 (bs, 0))) := by unfold readE; rw [if_pos hd]
    rw [this]
    exact ⟨none, 0, rfl, RowAt.nil _ _, new5 Y24 X37⟩
  · have : readE bs = (Ent.zero, 4) := by unfold readE; rw [if_neg (by rw [hd]; simp), if_neg (by rw [hr]; simp)]
    rw [this]
    exact ⟨none, 0, rfl, RowAt.nil _ _, new5 Y24 X49⟩
  · have : readE bs = (entR (bs, 0), 0) := by unfold readE; rw [if_neg (by rw [hd]; simp), if_pos hr]
    rw [this]
    rw [g2 hr] at hrow hbp ⊢
    refine ⟨ba, bc, rfl, (hrow.no X24).ext' X57 fun h0 ad ha hb => ?_, new5 Y24 X57⟩
    have := hbp h0 ad ha
    omega
theorem Q2f {e f : Ent} {b : Option Addr} {d : Nat} (ha : RowAt w a (bytesV e.body)) (hb : RowAt w b (bytesV f.body)) (hl : e.body.length < 1000000) :
    Calls Try.prog 35 #[entV e a c, entV f b d] w (Ret (.bool (decide (e = f))) fun w' => Ext no w w') := by
  refine Q0q.run _ _ _ _ _ _ _ _ _ _ _ _ _ _ _ _ _ _ _ _ ?_
  unfold Q0q.N
  obtain ⟨e1, e2, e3, e4, e5, e6, e7, e8⟩ := e
  obtain ⟨f1, f2, f3, f4, f5, f6, f7, f8⟩ := f
  simp only [Ent.mk.injEq]
  refine ⟨fun c1 => ⟨fun c2 => ⟨fun c3 => ⟨fun c4 => ⟨fun c5 => ⟨fun c6 w18 X => ?_, fun c6 w18 X => ⟨?_, X⟩⟩, fun c5 w18 X => ⟨?_, X⟩⟩, fun c4 w18 X => ⟨?_, X⟩⟩, fun c3 w18 X => ⟨?_, X⟩⟩, fun c2 w18 X => ⟨?_, X⟩⟩, fun c1 w18 X => ⟨?_, X⟩⟩
  · refine (W.sameB_spec (ha.no X) (hb.no X) hl).mono fun x w31 ⟨he, X31⟩ => ⟨_, he, ?_, X.trans X31⟩
    congr 1; rw [Bool.eq_iff_iff, decide_eq_true_eq, decide_eq_true_eq]; exact ⟨fun h => ⟨c1, c2, c3, c4.1, c4.2, c5, h, c6⟩, fun h => h.2.2.2.2.2.2.1⟩
  · rw [decide_eq_false fun h => c6 h.2.2.2.2.2.2.2]
  · rw [decide_eq_false fun h => c5 h.2.2.2.2.2.1]
  · rw [decide_eq_false fun h => c4 ⟨h.2.2.2.1, h.2.2.2.2.1⟩]
  · rw [decide_eq_false fun h => c3 h.2.2.1]
  · rw [decide_eq_false fun h => c2 h.2.1]
  · rw [decide_eq_false fun h => c1 h.1]
end
def vRight.M (aj : Option Addr) (ag an : Nat) (R : RW) (w : World) : Prop :=
 ∃ (I0 : Nat → List Value → World → Prop) (m3 : Nat), I0 m3 [.int .i64 0] w ∧ ∀ (m4 : Nat) (a7 : World) (t2 : Int), I0 m4 [.int .i64 t2] a7 →
 bif decide (t2 < (ag : Int)) then (
 aj.elim False fun a6 =>
 0 ≤ (t2 : Int) ∧ (t2 : Int) < (ag : Int) ∧
 ∃ (a2 aa ab : Int), cellsAt a7 (a6.add (Int.toNat t2 * 3)) [.int .i64 a2, .int .i64 aa, .int .u64 ab] 0 ∧
 thenW (a7.alloc (.cells #[.int .i64 0, .int .i64 0, .int .u64 0] 66)) fun ac =>
 Q01 ac ((blk a7.heap.size).add 0) ∧
 thenW (ac.setCell ((blk a7.heap.size).add 0) (.int .i64 a2)) fun ae =>
 Q01 ae ((blk a7.heap.size).add 1) ∧
 thenW (ae.setCell ((blk a7.heap.size).add 1) (.int .i64 aa)) fun ad =>
 Q01 ad ((blk a7.heap.size).add 2) ∧
 thenW (ad.setCell ((blk a7.heap.size).add 2) (.int .u64 ab)) fun ah =>
 thenW (ah.drew) fun af =>
 ∃ (a1 a9 a8 : Int), cellsAt af (blk a7.heap.size) [.int .i64 a1, .int .i64 a9, .int .u64 a8] 0 ∧
 Calls Try.prog 63 #[.agg #[.int .i64 a1, .int .i64 a9, .int .u64 a8]] af fun ai a5 => ∃ (a0 : Bool), ai = .returned (.bool a0) ∧
 bif !a0 then (
 R (.bool false) a5) else (
 bif decide (t2 > 0) then (
 ∃ (a3 : Int), a5.cell? ((blk a7.heap.size).add 0) = some (.int .i64 a3) ∧
 aj.elim False fun am =>
 0 ≤ ((IntKind.i64.wrap (t2 - 1)) : Int) ∧ ((IntKind.i64.wrap (t2 - 1)) : Int) < (ag : Int) ∧
 ∃ (a4 : Int), a5.cell? ((am.add (Int.toNat (IntKind.i64.wrap (t2 - 1)) * 3)).add 0) = some (.int .i64 a4) ∧
 bif decide (a3 ≤ a4) then (
 R (.bool false) a5) else (
 ∃ ak, ak < m4 ∧ I0 ak [.int .i64 (IntKind.i64.wrap (t2 + 1))] a5)) else (
 ∃ al, al < m4 ∧ I0 al [.int .i64 (IntKind.i64.wrap (t2 + 1))] a5))) else (
 R (.bool true) a7)

theorem vRight.ok (a2 : Option Addr) (a1 a0 : Nat) {R : RW} {w : World} (h : vRight.M a2 a1 a0 R w) : Calls Try.prog 38 #[.slice a2 a1 a0] w fun e w' => ∃ v, e = .returned v ∧ R v w' :=
  Q08 follows (H := [(0, [0, 5, 6], [(7, (.one (.int .i64)))])]) (args := [.slice a2 a1 a0]) (cast (by kernel_rfl) h)

def vrh.M (a2 a8 a6 : Int) (R : RW) (w : World) : Prop :=
 thenW (w.alloc (.cells #[.int .i64 a2, .int .i64 a8, .int .u64 a6] 66)) fun a3 =>
 ∃ (a1 : Int), a3.cell? ((blk w.heap.size).add 0) = some (.int .i64 a1) ∧
 bif decide (a1 ≥ 0) then (
 ∃ (a0 : Int), a3.cell? ((blk w.heap.size).add 0) = some (.int .i64 a0) ∧
 bif decide (a0 < 8) then (
 ∃ (a7 : Int), a3.cell? ((blk w.heap.size).add 1) = some (.int .i64 a7) ∧
 bif decide (a7 > 0) then (
 ∃ (a5 : Int), a3.cell? ((blk w.heap.size).add 1) = some (.int .i64 a5) ∧
 bif decide (a5 ≤ 200) then (
 ∃ (a4 : Int), a3.cell? ((blk w.heap.size).add 2) = some (.int .u64 a4) ∧
 R (.bool (a4 != 0)) a3) else (
 R (.bool false) a3)) else (
 R (.bool false) a3)) else (
 R (.bool false) a3)) else (
 R (.bool false) a3)

theorem vrh.ok (a0 a1 a2 : Int) {R : RW} {w : World} (h : vrh.M a0 a1 a2 R w) : Calls Try.prog 63 #[.agg #[.int .i64 a0, .int .i64 a1, .int .u64 a2]] w fun e w' => ∃ v, e = .returned v ∧ R v w' :=
  Q08 follows (H := []) (args := [.agg #[.int .i64 a0, .int .i64 a1, .int .u64 a2]]) (cast (by kernel_rfl) h)

def GivesV (v : Value) (Q : World → Prop) (e : Ending) (w' : World) : Prop := e = .returned v ∧ Q w'
abbrev Hd := Int × Int × Int
def hdC (h : Hd) : List Value := [.int .i64 h.1, .int .i64 h.2.1, .int .u64 h.2.2]
def hdV (h : Hd) : Value := .agg #[.int .i64 h.1, .int .i64 h.2.1, .int .u64 h.2.2]
def hsC (hs : List Hd) : List Value := hs.flatMap hdC
theorem Q3l : ∀ hs : List Hd, (hsC hs).length = hs.length * 3
  | [] => rfl
  | h :: r => by
    have := Q3l r
    simp only [hsC, List.flatMap_cons, List.length_append, List.length_cons] at this ⊢
    rw [this]; simp [hdC]; omega
theorem hsC_get : ∀ {hs : List Hd} {i : Nat} {h : Hd}, hs[i]? = some h → ∀ j, j < 3 → (hsC hs)[i * 3 + j]? = (hdC h)[j]?
  | [], i, h, hi, j, hj => by simp at hi
  | a :: r, 0, h, hi, j, hj => by
    simp only [List.getElem?_cons_zero, Option.some.injEq] at hi
    subst hi
    simp only [hsC, List.flatMap_cons, Nat.zero_mul, Nat.zero_add]
    rw [List.getElem?_append_left (by simp [hdC]; omega)]
  | a :: r, i + 1, h, hi, j, hj => by
    simp only [List.getElem?_cons_succ] at hi
    have := hsC_get hi j hj
    simp only [hsC, List.flatMap_cons] at this ⊢
    rw [List.getElem?_append_right (by simp [hdC]; omega), show (i + 1) * 3 + j - (hdC a).length = i * 3 + j by simp [hdC]; omega]
    exact this
theorem hs_cell {w : World} {ad : Addr} {hs : List Hd} (hr : RowAt w (some ad) (hsC hs)) {i : Nat} {h : Hd} (hi : hs[i]? = some h) {j : Nat} {v : Value} (hv : (hdC h)[j]? = some v) : w.cell? ((ad.add (i * 3)).add j) = some v := by
  have hj : j < 3 := by have := (List.getElem?_eq_some_iff.1 hv).1; simpa [hdC] using this
  rw [add_add]
  exact hr.at_ ((hsC_get hi j hj).trans hv)
theorem hs_at {w : World} {ad : Addr} {hs : List Hd} (hr : RowAt w (some ad) (hsC hs)) {i : Nat} {h : Hd} (hi : hs[i]? = some h) : cellsAt w (ad.add (i * 3)) [.int .i64 h.1, .int .i64 h.2.1, .int .u64 h.2.2] 0 :=
  ⟨hs_cell hr hi (j := 0) rfl, hs_cell hr hi (j := 1) rfl, hs_cell hr hi (j := 2) rfl, trivial⟩
theorem hsC_ne {hs : List Hd} (h : hs ≠ []) : hsC hs ≠ [] := fun e => by
  have := Q3l hs
  rw [e] at this
  simp at this
  exact h (List.eq_nil_of_length_eq_zero (by omega))

def rhead (h : Hd) : Bool := decide (h.1 ≥ 0) && (decide (h.1 < 8) && (decide (h.2.1 > 0) && (decide (h.2.1 ≤ 200) && (h.2.2 != 0))))
def rightF : Option Int → List Hd → Bool
  | _, [] => true
  | p, h :: r => rhead h && (match p with | none => true | some q => decide (q < h.1)) && rightF (some h.1) r
def rightV (hs : List Hd) : Bool := rightF none hs
def prevOf (hs : List Hd) : Nat → Option Int
  | 0 => none
  | t + 1 => (hs[t]?).map (·.1)
theorem Q3G : ∀ {hs : List Hd} {p : Option Int}, rightF p hs = true → (∀ q, p = some q → ∀ h ∈ hs, q < h.1) ∧ (hs.map (·.1)).Pairwise (· < ·)
  | [], p, _ => ⟨fun q _ h hh => by simp at hh, by simp⟩
  | a :: r, p, h => by
    simp only [rightF, Bool.and_eq_true] at h
    obtain ⟨⟨h1, h2⟩, h3⟩ := h
    obtain ⟨i1, i2⟩ := Q3G h3
    refine ⟨fun q hq x hx => ?_, ?_⟩
    · subst hq
      simp only [decide_eq_true_eq] at h2
      rcases List.mem_cons.1 hx with rfl | hx
      · exact h2
      · have := i1 a.1 rfl x hx; omega
    · simp only [List.map_cons, List.pairwise_cons]
      refine ⟨fun b hb => ?_, i2⟩
      obtain ⟨x, hx, rfl⟩ := List.mem_map.1 hb
      exact i1 a.1 rfl x hx
section
variable {w w' : World} {a : Option Addr} {c : Nat} {hs : List Hd}
theorem Q3d (h : Hd) : Calls Try.prog 63 #[hdV h] w (GivesV (.bool (rhead h)) fun w' => Ext no w w') := by
  refine (vrh.ok _ _ _ (R := fun v w' => v = .bool (rhead h) ∧ Ext no w w') ?_).mono fun e w' ⟨v, he, hv, hw⟩ => ⟨by rw [he, hv], hw⟩
  unfold vrh.M
  refine Q02 fun w4 h4 => ?_
  have hb : Blk w4 w.heap.size 66 (hdC h) := by subst h4; exact Blk.new _ _ _
  have hx : Ext no w w4 := by subst h4; exact (Ext.refl _ _).alloc _
  refine ⟨_, hb.cella (i := 0) rfl, ?_⟩
  unfold rhead
  by_cases c1 : h.1 ≥ 0
  · rw [decide_eq_true c1, cond_true, Bool.true_and]
    refine ⟨_, hb.cella (i := 0) rfl, ?_⟩
    by_cases c2 : h.1 < 8
    · rw [decide_eq_true c2, cond_true, Bool.true_and]
      refine ⟨_, hb.cella (i := 1) rfl, ?_⟩
      by_cases c3 : h.2.1 > 0
      · rw [decide_eq_true c3, cond_true, Bool.true_and]
        refine ⟨_, hb.cella (i := 1) rfl, ?_⟩
        by_cases c4 : h.2.1 ≤ 200
        · rw [decide_eq_true c4, cond_true, Bool.true_and]
          exact ⟨_, hb.cella (i := 2) rfl, rfl, hx⟩
        · rw [decide_eq_false c4]; exact ⟨rfl, hx⟩
      · rw [decide_eq_false c3]; exact ⟨rfl, hx⟩
    · rw [decide_eq_false c2]; exact ⟨rfl, hx⟩
  · rw [decide_eq_false c1]; exact ⟨rfl, hx⟩

theorem Q20 (hr : RowAt w a (hsC hs)) (hl : hs.length < 1000000) : Calls Try.prog 38 #[.slice a hs.length c] w (GivesV (.bool (rightV hs)) fun w' => Ext no w w') := by
  refine (vRight.ok _ _ _ (R := fun v w' => v = .bool (rightV hs) ∧ Ext no w w') ?_).mono fun e w' ⟨v, he, hv, hw⟩ => ⟨by rw [he, hv], hw⟩
  unfold vRight.M
  refine ⟨fun k vs w1 => ∃ t : Nat, vs = [.int .i64 t] ∧ k + t = hs.length ∧ rightF (prevOf hs t) (hs.drop t) = rightV hs ∧ Ext no w w1, hs.length, ⟨0, rfl, rfl, rfl, Ext.refl _ _⟩, ?_⟩
  rintro k w1 i ⟨t, hi, hk, hf, hx⟩
  simp only [List.cons.injEq, Value.int.injEq, true_and, and_true] at hi
  subst hi
  cases k with
  | zero =>
    obtain rfl : t = hs.length := by omega
    rw [show decide ((hs.length : Int) < (hs.length : Int)) = false by simp, cond_false]
    rw [List.drop_length] at hf
    exact ⟨by rw [← hf]; cases prevOf hs hs.length <;> rfl, hx⟩
  | succ k =>
    have ht : t < hs.length := by omega
    rw [show decide ((t : Int) < (hs.length : Int)) = true by simp; omega, cond_true]
    have hr1 := hr.no hx
    obtain ⟨ad, rfl⟩ := hr1.addr (hsC_ne (by intro e; subst e; simp at ht))
    have hgi : hs[t]? = some hs[t] := List.getElem?_eq_getElem ht
    refine ⟨by omega, by omega, _, _, _, by rw [Int.toNat_natCast]; exact hs_at hr1 hgi, Q02 fun w10 h10 => ?_⟩
    have hb10 : Blk w10 w1.heap.size 66 [.int .i64 0, .int .i64 0, .int .u64 0] := by subst h10; exact Blk.new _ _ _
    have x10 : Ext no w1 w10 := by subst h10; exact (Ext.refl _ _).alloc _
    refine ⟨hb10.cana (i := 0) rfl, Q02 fun w11 h11 => ?_⟩
    have hb11 := hb10.seta 0 (.int .i64 hs[t].1)
    rw [← h11] at hb11
    have x11 : Ext no w1 w11 := by subst h11; exact x10.setCell (.inr (by rw [add_zero]; exact Nat.le_refl _)) _
    refine ⟨hb11.cana (i := 1) rfl, Q02 fun w12 h12 => ?_⟩
    have hb12 := hb11.seta 1 (.int .i64 hs[t].2.1)
    rw [← h12] at hb12
    have x12 : Ext no w1 w12 := by subst h12; exact x11.setCell (.inr (by rw [add_blk]; exact Nat.le_refl _)) _
    refine ⟨hb12.cana (i := 2) rfl, Q02 fun w13 h13 => Q02 fun w14 h14 => ?_⟩
    have hb13 := hb12.seta 2 (.int .u64 hs[t].2.2)
    rw [← h13] at hb13
    have x13 : Ext no w1 w13 := by subst h13; exact x12.setCell (.inr (by rw [add_blk]; exact Nat.le_refl _)) _
    have hb14 := hb13.drew
    rw [← h14] at hb14
    have x14 : Ext no w1 w14 := by subst h14; exact x13.drew
    refine ⟨_, _, _, ⟨hb14.cella (i := 0) rfl, hb14.cella (i := 1) rfl, hb14.cella (i := 2) rfl, trivial⟩, ?_⟩
    refine (Q3d hs[t]).mono fun e w20 ⟨he, x20'⟩ => ⟨_, he, ?_⟩
    have x20 := x14.trans x20'
    have hb20 := hb14.ext x20' id
    have hd : hs.drop t = hs[t] :: hs.drop (t + 1) := List.drop_eq_getElem_cons ht
    rw [hd] at hf
    simp only [rightF] at hf
    by_cases c1 : rhead hs[t] = true
    · rw [c1, Bool.not_true, cond_false]
      rw [c1, Bool.true_and] at hf
      have hw1 : IntKind.i64.wrap ((t : Int) + 1) = ((t + 1 : Nat) : Int) := by rw [w64 (by omega) (by omega)]; rfl
      cases t with
      | zero =>
        rw [show decide (((0 : Nat) : Int) > 0) = false from rfl, cond_false]
        exact ⟨k, by omega, 1, by rw [hw1], by omega, by rw [← hf]; simp [prevOf, ht], hx.trans x20⟩
      | succ t =>
        rw [show decide (((t + 1 : Nat) : Int) > 0) = true by simp <;> omega, cond_true]
        have htl : t < hs.length := by omega
        have hgp : hs[t]? = some hs[t] := List.getElem?_eq_getElem htl
        have hw2 : IntKind.i64.wrap (((t + 1 : Nat) : Int) - 1) = (t : Int) := by rw [w64 (by omega) (by omega)] <;> omega
        rw [hw2]
        refine ⟨_, hb20.cella (i := 0) rfl, by omega, by omega, _, by rw [Int.toNat_natCast]; exact hs_cell (hr1.no x20) hgp (j := 0) rfl, ?_⟩
        simp only [prevOf, hgp, Option.map_some] at hf
        by_cases c2 : hs[t + 1].1 ≤ hs[t].1
        · rw [decide_eq_true c2, cond_true]
          rw [decide_eq_false (by omega), Bool.false_and] at hf
          exact ⟨by rw [← hf], hx.trans x20⟩
        · rw [decide_eq_false c2, cond_false]
          rw [decide_eq_true (by omega), Bool.true_and] at hf
          exact ⟨k, by omega, t + 2, by rw [hw1], by omega, by rw [← hf]; simp [prevOf, ht], hx.trans x20⟩
    · have c1' : rhead hs[t] = false := by simpa using c1
      rw [c1', Bool.not_false, cond_true]
      rw [c1', Bool.false_and, Bool.false_and] at hf
      exact ⟨by rw [← hf], hx.trans x20⟩

theorem Q59 (hs : List Hd) (h : rightV hs = true) {i j : Nat} {p q : Hd} (hij : i < j) (hi : hs[i]? = some p) (hj : hs[j]? = some q) : p.1 < q.1 := by
  have := (Q3G h).2
  obtain ⟨hi1, rfl⟩ := List.getElem?_eq_some_iff.1 hi
  obtain ⟨hj1, rfl⟩ := List.getElem?_eq_some_iff.1 hj
  have h2 := List.pairwise_iff_getElem.1 this i j (by simpa using hi1) (by simpa using hj1) hij
  simpa using h2
end
theorem infHead : (Try.prog.info? 66).map (fun i => (i.zero, i.size, i.bytes)) = some (some (.agg #[.int .i64 0, .int .i64 0, .int .u64 0]), 3, 24) := by kernel_rfl

theorem Q5w {w w' : World} {m : Nat → Prop} {base e size n : Nat} {v : Value} {xs : List Value} (h : w.ownsRow base e size v n xs) (k : Ext m w w') (hm : ∀ q, v.ownBlock = some q → ¬ m q) : w'.ownsRow base e size v n xs := by
  refine ⟨h.1, ?_⟩
  rcases h.2 with h2 | ⟨g, cap, cur, hv, hb, hg, hr⟩
  · exact .inl h2
  · exact .inr ⟨g, cap, cur, hv, hb, k.get hg (hm g (by rw [hv]; rfl)), hr⟩
theorem Q3y (w : World) (e size : Nat) : w.ownsRow 0 e size (.slice none 0 0) 0 [] := ⟨by simp, .inl ⟨rfl, rfl⟩⟩

section
variable {w w' : World} {aa ba : Option Addr} {ac bc : Nat} {a b : List Hd}
/-! ### Compare -/
/-! ### a list of heads that grows -/
def Grows (N : Nat) (w : World) (A : Nat) (t : TypeId) (l : List Hd) : Prop :=
  ∃ ra rc, Blk w A t [.slice ra l.length rc] ∧ w.ownsRow 0 66 3 (.slice ra l.length rc) l.length (hsC l) ∧ (∀ ad, ra = some ad → N ≤ ad.block ∧ ad.block ≠ A) ∧ N ≤ A
/-! ### Missing -/
end
section
variable {w w' : World} {aa ba : Option Addr} {ac bc : Nat} {a b : List Hd}
/-! ### Conflict -/
/-! ### Merge -/
/-! ### the chapter's example -/
end
def fitH (h : Hd) : Prop := (Lit.int .i64 h.1).wf = true ∧ (Lit.int .i64 h.2.1).wf = true ∧ (Lit.int .u64 h.2.2).wf = true
def HeadsQ (W : World) (cs : List Value) : Prop := ∃ (a : Option Addr) (c : Nat) (hs : List Hd), cs = [.slice a hs.length c] ∧ hs.length ≤ c ∧ c ≤ maxLen ∧ RowAt W a (hsC hs) ∧ ∀ h ∈ hs, fitH h
def HeadQ (W : World) (cs : List Value) : Prop := ∃ h : Hd, cs = hdC h ∧ fitH h
theorem Q4X : Opens Try.prog 66 HeadQ :=
  (Q1v (size := 3) Try.underlying66 (by kernel_rfl)).mono fun W cs ⟨hl, h⟩ => by
    match cs, hl with
    | [c0, c1, c2], _ =>
      obtain ⟨n0, e0, f0⟩ := h 0 _ rfl _ (Q15 Try.underlying3)
      obtain ⟨n1, e1, f1⟩ := h 1 _ rfl _ (Q15 Try.underlying3)
      obtain ⟨n2, e2, f2⟩ := h 2 _ rfl _ (Q15 Try.underlying22)
      have ci : Try.prog.cellsOf 3 = 1 := by kernel_rfl
      have cu : Try.prog.cellsOf 22 = 1 := by kernel_rfl
      change List.take (Try.prog.cellsOf 3) (List.drop 0 [c0, c1, c2]) = _ at e0
      change List.take (Try.prog.cellsOf 3) (List.drop 1 [c0, c1, c2]) = _ at e1
      change List.take (Try.prog.cellsOf 22) (List.drop 2 [c0, c1, c2]) = _ at e2
      rw [ci] at e0 e1
      rw [cu] at e2
      simp only [List.drop_zero, List.drop_succ_cons, List.take_succ_cons, List.take_zero, List.cons.injEq, and_true] at e0 e1 e2
      subst e0; subst e1; subst e2
      exact ⟨(n0, n1, n2), rfl, f0, f1, f2⟩
theorem Q4b : Opens Try.prog 28 HeadsQ :=
  (Q30 (size := 3) Try.underlying28 (by kernel_rfl) Q4X).mono fun W cs ⟨a, l, c, rows, h1, h2, h3, h4, h5, h6⟩ => by
    obtain ⟨xs, h7, h8⟩ := rows_of (rows := rows) hdC fitH fun r hr => by
      obtain ⟨h, q1, q2⟩ := (h6 r hr).2
      exact ⟨h, q1, q2⟩
    subst h7
    rw [List.length_map] at h4
    subst h4
    exact ⟨a, c, xs, h1, h2, h3, by rw [hsC, List.flatMap_def]; exact h5, h8⟩
open W (OwnB Rd GivesW numR countR doneR)
def vBytes.M (b6 : Option Addr) (av bh : Nat) (R : RW) (w : World) : Prop :=
 Calls Try.prog 38 #[.slice b6 av bh] w fun bj bc => ∃ (ad : Bool), bj = .returned (.bool ad) ∧
 bif !ad then (
 R (.tuple #[.slice none 0 0, .int .i64 1]) bc) else (
 Calls Try.prog 26 #[.slice none 0 0, .int .u64 (IntKind.u64.wrap (av : Int))] bc fun be bg => ∃ (ao : Option Addr) (an al : Nat), be = .returned (.slice ao an al) ∧
 ∃ (I0 : Nat → List Value → World → Prop) (bf : Nat), I0 bf [.slice ao an al, .int .i64 0] bg ∧ ∀ (b9 : Nat) (a0 : World) (b1 : Option Addr) (b5 b3 : Nat) (t9 : Int), I0 b9 [.slice b1 b5 b3, .int .i64 t9] a0 →
 bif decide (t9 < (av : Int)) then (
 b6.elim False fun bd =>
 0 ≤ (t9 : Int) ∧ (t9 : Int) < (av : Int) ∧
 ∃ (a1 ab ai : Int), cellsAt a0 (bd.add (Int.toNat t9 * 3)) [.int .i64 a1, .int .i64 ab, .int .u64 ai] 0 ∧
 thenW (a0.alloc (.cells #[.int .i64 0, .int .i64 0, .int .u64 0] 66)) fun ar =>
 Q01 ar ((blk a0.heap.size).add 0) ∧
 thenW (ar.setCell ((blk a0.heap.size).add 0) (.int .i64 a1)) fun aq =>
 Q01 aq ((blk a0.heap.size).add 1) ∧
 thenW (aq.setCell ((blk a0.heap.size).add 1) (.int .i64 ab)) fun au =>
 Q01 au ((blk a0.heap.size).add 2) ∧
 thenW (au.setCell ((blk a0.heap.size).add 2) (.int .u64 ai)) fun ak =>
 ∃ (a2 : Int), ak.cell? ((blk a0.heap.size).add 0) = some (.int .i64 a2) ∧
 ∃ (ap : Int), ak.cell? ((blk a0.heap.size).add 1) = some (.int .i64 ap) ∧
 ∃ (am : Int), ak.cell? ((blk a0.heap.size).add 2) = some (.int .u64 am) ∧
 ∃ (I2 : Nat → List Value → World → Prop) (bi : Nat), I2 bi [.slice b1 b5 b3, .int .i64 0] ak ∧ ∀ (aw : Nat) (ag : World) (a7 : Option Addr) (a6 a4 : Nat) (aj : Int), I2 aw [.slice a7 a6 a4, .int .i64 aj] ag →
 bif decide (aj < 3) then (
 0 ≤ (aj : Int) ∧ (aj : Int) < (3 : Int) ∧
 ((aj : Int) = 0 → 
 Calls Try.prog 26 #[.slice a7 a6 a4, .int .u64 (IntKind.u64.wrap a2)] ag fun az b2 => ∃ (ac : Option Addr) (a5 a8 : Nat), az = .returned (.slice ac a5 a8) ∧
 ∃ b7, b7 < aw ∧ I2 b7 [.slice ac a5 a8, .int .i64 (IntKind.i64.wrap (aj + 1))] b2) ∧
 ((aj : Int) = 1 → 
 Calls Try.prog 26 #[.slice a7 a6 a4, .int .u64 (IntKind.u64.wrap ap)] ag fun b4 ay => ∃ (a9 : Option Addr) (ae a3 : Nat), b4 = .returned (.slice a9 ae a3) ∧
 ∃ ba, ba < aw ∧ I2 ba [.slice a9 ae a3, .int .i64 (IntKind.i64.wrap (aj + 1))] ay) ∧
 ((aj : Int) = 2 → 
 Calls Try.prog 26 #[.slice a7 a6 a4, .int .u64 am] ag fun ax b0 => ∃ (aa : Option Addr) (ah af : Nat), ax = .returned (.slice aa ah af) ∧
 ∃ b8, b8 < aw ∧ I2 b8 [.slice aa ah af, .int .i64 (IntKind.i64.wrap (aj + 1))] b0) ∧ True) else (
 ∃ bb, bb < b9 ∧ I0 bb [.slice a7 a6 a4, .int .i64 (IntKind.i64.wrap (t9 + 1))] ag)) else (
 R (.tuple #[.slice b1 b5 b3, .int .i64 0]) a0))

theorem vBytes.ok (a2 : Option Addr) (a1 a0 : Nat) {R : RW} {w : World} (h : vBytes.M a2 a1 a0 R w) : Calls Try.prog 28 #[.slice a2 a1 a0] w fun e w' => ∃ v, e = .returned v ∧ R v w' :=
  Q08 follows (H := [(0, [16, 17], [(4, (.one .slice)), (18, (.one (.int .i64)))]), (2, [16, 17, 18, 30], [(4, (.one .slice)), (31, (.one (.int .i64)))])]) (args := [.slice a2 a1 a0]) (cast (by kernel_rfl) h)

def vRead.M (b2 : Option Addr) (b3 b6 : Nat) (R : RW) (w : World) : Prop :=
 Calls Try.prog 33 #[.slice b2 b3 b6] w fun b7 b8 => ∃ (a2 : Option Addr), b7 = .returned (.pointer a2) ∧
 Calls Try.prog 54 #[.pointer a2, .int .i64 8] b8 fun b1 b5 => ∃ (a9 : Int), b1 = .returned (.int .i64 a9) ∧
 ∃ (I0 : Nat → List Value → World → Prop) (b4 : Nat), I0 b4 [.slice none 0 0, .int .i64 0] b5 ∧ ∀ (b0 : Nat) (a0 : World) (an : Option Addr) (al am : Nat) (t9 : Int), I0 b0 [.slice an al am, .int .i64 t9] a0 →
 bif decide (t9 < a9) then (
 thenW (a0.alloc (.cells #[.int .i64 0, .int .i64 0, .int .u64 0] 66)) fun aq =>
 Calls Try.prog 54 #[.pointer a2, .int .i64 7] aq fun av ah => ∃ (a4 : Int), av = .returned (.int .i64 a4) ∧
 Q01 ah (((blk a0.heap.size).add 0).add 0) ∧
 thenW (ah.setCell (((blk a0.heap.size).add 0).add 0) (.int .i64 a4)) fun aw =>
 Calls Try.prog 54 #[.pointer a2, .int .i64 200] aw fun ar ai => ∃ (a5 : Int), ar = .returned (.int .i64 a5) ∧
 Q01 ai (((blk a0.heap.size).add 1).add 0) ∧
 thenW (ai.setCell (((blk a0.heap.size).add 1).add 0) (.int .i64 a5)) fun ap =>
 Calls Try.prog 71 #[.pointer a2] ap fun ao ad => ∃ (aa : Int), ao = .returned (.int .u64 aa) ∧
 Q01 ad (((blk a0.heap.size).add 2).add 0) ∧
 thenW (ad.setCell (((blk a0.heap.size).add 2).add 0) (.int .u64 aa)) fun ab =>
 ∃ (a1 a7 a8 : Int), cellsAt ab (blk a0.heap.size) [.int .i64 a1, .int .i64 a7, .int .u64 a8] 0 ∧
 thenW (ab.alloc (.cells #[.int .i64 a1, .int .i64 a7, .int .u64 a8] 66)) fun ax =>
 ∃ (af : Option Addr) (ak aj : Nat) (ag : World), (Builtin.append_ #[36, 36] 36 #[.slice an al am, .slice (some (blk ab.heap.size)) 1 1]).run Try.prog ax = .ok (.slice af ak aj) ag ∧
 ∃ az, az < b0 ∧ I0 az [.slice af ak aj, .int .i64 (IntKind.i64.wrap (t9 + 1))] ag) else (
 Calls Try.prog 56 #[.pointer a2] a0 fun ay ae => ∃ (a3 : Int), ay = .returned (.int .i64 a3) ∧
 bif a3 != 0 then (
 R (.tuple #[.slice none 0 0, .int .i64 a3]) ae) else (
 Calls Try.prog 38 #[.slice an al am] ae fun au ac => ∃ (a6 : Bool), au = .returned (.bool a6) ∧
 bif !a6 then (
 R (.tuple #[.slice none 0 0, .int .i64 4]) ac) else (
 R (.tuple #[.slice an al am, .int .i64 0]) ac)))

theorem vRead.ok (a1 : Option Addr) (a0 a2 : Nat) {R : RW} {w : World} (h : vRead.M a1 a0 a2 R w) : Calls Try.prog 93 #[.slice a1 a0 a2] w fun e w' => ∃ v, e = .returned v ∧ R v w' :=
  Q08 follows (H := [(0, [4, 10], [(2, (.one .slice)), (11, (.one (.int .i64)))])]) (args := [.slice a1 a0 a2]) (cast (by kernel_rfl) h)

def rSame5.M (af : Option Addr) (a7 ag : Nat) (ae : Option Addr) (aa ah : Nat) (R : RW) (w : World) : Prop :=
 bif (a7 : Int) != (aa : Int) then (
 R (.bool false) w) else (
 ∃ (I0 : Nat → List Value → World → Prop) (m4 : Nat), I0 m4 [.int .i64 0] w ∧ ∀ (m5 : Nat) (a9 : World) (i3 : Int), I0 m5 [.int .i64 i3] a9 →
 bif decide (i3 < (a7 : Int)) then (
 thenW (a9.drew) fun a6 =>
 af.elim False fun a8 =>
 0 ≤ (i3 : Int) ∧ (i3 : Int) < (a7 : Int) ∧
 ∃ (a1 a3 a4 : Int), cellsAt a6 (a8.add (Int.toNat i3 * 3)) [.int .i64 a1, .int .i64 a3, .int .u64 a4] 0 ∧
 ae.elim False fun ad =>
 0 ≤ (i3 : Int) ∧ (i3 : Int) < (aa : Int) ∧
 ∃ (a0 a5 a2 : Int), cellsAt a6 (ad.add (Int.toNat i3 * 3)) [.int .i64 a0, .int .i64 a5, .int .u64 a2] 0 ∧
 ∃ (ac : Bool), (binOp .neq 66 (.agg #[.int .i64 a1, .int .i64 a3, .int .u64 a4]) (.agg #[.int .i64 a0, .int .i64 a5, .int .u64 a2])).run Try.prog a6 = .ok (.bool ac) a6 ∧
 bif ac then (
 R (.bool false) a6) else (
 ∃ ab, ab < m5 ∧ I0 ab [.int .i64 (IntKind.i64.wrap (i3 + 1))] a6)) else (
 R (.bool true) a9))

theorem rSame5.ok (a5 : Option Addr) (a0 a1 : Nat) (a3 : Option Addr) (a2 a4 : Nat) {R : RW} {w : World} (h : rSame5.M a5 a0 a1 a3 a2 a4 R w) : Calls Try.prog 36 #[.slice a5 a0 a1, .slice a3 a2 a4] w fun e w' => ∃ v, e = .returned v ∧ R v w' :=
  Q08 follows (H := [(0, [0, 1], [(5, (.one (.int .i64)))])]) (args := [.slice a5 a0 a1, .slice a3 a2 a4]) (cast (by kernel_rfl) h)

def wSame.M (a9 : Option Addr) (a1 aa : Nat) (a6 : Option Addr) (a3 ab : Nat) (R : RW) (w : World) : Prop :=
 bif (a1 : Int) != (a3 : Int) then (
 R (.bool false) w) else (
 ∃ (I0 : Nat → List Value → World → Prop) (m4 : Nat), I0 m4 [.int .i64 0] w ∧ ∀ (m5 : Nat) (a2 : World) (i3 : Int), I0 m5 [.int .i64 i3] a2 →
 bif decide (i3 < (a1 : Int)) then (
 thenW (a2.drew) fun a0 =>
 a9.elim False fun a8 =>
 0 ≤ (i3 : Int) ∧ (i3 : Int) < (a1 : Int) ∧
 ∃ (x9 : Int), a0.cell? (a8.add (Int.toNat i3 * 1)) = some (.int .u8 x9) ∧
 a6.elim False fun a7 =>
 0 ≤ (i3 : Int) ∧ (i3 : Int) < (a3 : Int) ∧
 ∃ (a4 : Int), a0.cell? (a7.add (Int.toNat i3 * 1)) = some (.int .u8 a4) ∧
 bif x9 != a4 then (
 R (.bool false) a0) else (
 ∃ a5, a5 < m5 ∧ I0 a5 [.int .i64 (IntKind.i64.wrap (i3 + 1))] a0)) else (
 R (.bool true) a2))

theorem wSame.eq (a1a : Option Addr) (a1n a1c : Nat) (b2a : Option Addr) (b2n b2c : Nat) (R : RW) (w : World) : mfunc Try.prog [(0, [0, 1], [(5, (.one (.int .i64)))])] 11 [.slice a1a a1n a1c, .slice b2a b2n b2c] R w = wSame.M a1a a1n a1c b2a b2n b2c R w := by kernel_rfl
theorem wSame.ok (a5 : Option Addr) (a0 a1 : Nat) (a3 : Option Addr) (a2 a4 : Nat) {R : RW} {w : World} (h : wSame.M a5 a0 a1 a3 a2 a4 R w) : Calls Try.prog 11 #[.slice a5 a0 a1, .slice a3 a2 a4] w fun e w' => ∃ v, e = .returned v ∧ R v w' :=
  Q08 follows (H := [(0, [0, 1], [(5, (.one (.int .i64)))])]) (args := [.slice a5 a0 a1, .slice a3 a2 a4]) (by rw [wSame.eq]; exact h)

def hdL (h : Hd) : List UInt8 := numL h.1.toNat ++ (numL h.2.1.toNat ++ numL h.2.2.toNat)
def vecL (hs : List Hd) : List UInt8 := numL hs.length ++ hs.flatMap hdL
theorem numL_le (n : Nat) : (numL n).length ≤ 10 := numF_le 10 n
theorem hdL_le (h : Hd) : (hdL h).length ≤ 30 := by
  have := numL_le h.1.toNat; have := numL_le h.2.1.toNat; have := numL_le h.2.2.toNat
  simp only [hdL, List.length_append]; omega
theorem hdsL_le : ∀ hs : List Hd, (hs.flatMap hdL).length ≤ 30 * hs.length
  | [] => Nat.le_refl _
  | h :: r => by
    have := hdsL_le r; have := hdL_le h
    simp only [List.flatMap_cons, List.length_append, List.length_cons]; omega
def natH (h : Hd) : Prop := 0 ≤ h.1 ∧ h.1 < 18446744073709551616 ∧ 0 ≤ h.2.1 ∧ h.2.1 < 18446744073709551616 ∧ 0 ≤ h.2.2 ∧ h.2.2 < 18446744073709551616
theorem Q5m {h : Hd} (hr : rhead h = true) (hf : 0 ≤ h.2.2 ∧ h.2.2 < 18446744073709551616) : natH h := by
  simp only [rhead, Bool.and_eq_true, decide_eq_true_eq] at hr
  obtain ⟨a, b, c, d, _⟩ := hr
  exact ⟨a, by omega, by omega, by omega, hf.1, hf.2⟩
theorem Q1u : ∀ {hs : List Hd} {p : Option Int}, rightF p hs = true → ∀ h ∈ hs, rhead h = true
  | [], _, _, h, hh => by simp at hh
  | a :: r, p, hr, h, hh => by
    simp only [rightF, Bool.and_eq_true] at hr
    rcases List.mem_cons.1 hh with rfl | hh
    · exact hr.1.1
    · exact Q1u hr.2 h hh
theorem OwnB.mono {N M : Nat} {w : World} {a : Option Addr} {c : Nat} {bs : List UInt8} (h : OwnB N w a c bs) (hM : M ≤ N) : OwnB M w a c bs := ⟨h.own, fun ad ha => ⟨Nat.le_trans hM (h.fr ad ha).1, (h.fr ad ha).2⟩⟩

section
variable {w w' : World} {a : Option Addr} {c : Nat} {hs : List Hd}
theorem Q48 (hr : RowAt w a (hsC hs)) (hl : hs.length ≤ 1000) (hn : rightV hs = true → ∀ h ∈ hs, natH h) :
    Calls Try.prog 28 #[.slice a hs.length c] w (fun e w' => Ext no w w' ∧ ((rightV hs = false ∧ e = .returned (.tuple #[.slice none 0 0, .int .i64 1])) ∨ (rightV hs = true ∧ ∃ a' c', e = .returned (.tuple #[.slice a' (vecL hs).length c', .int .i64 0]) ∧ OwnB w.heap.size w' a' c' (vecL hs)))) := by
  refine (vBytes.ok _ _ _ (R := fun v w' => Ext no w w' ∧ ((rightV hs = false ∧ v = .tuple #[.slice none 0 0, .int .i64 1]) ∨ (rightV hs = true ∧ ∃ a' c', v = .tuple #[.slice a' (vecL hs).length c', .int .i64 0] ∧ OwnB w.heap.size w' a' c' (vecL hs)))) ?_).mono fun e w' ⟨v, he, hx, hv⟩ => ⟨hx, hv.imp (fun ⟨h1, h2⟩ => ⟨h1, by rw [he, h2]⟩) (fun ⟨h1, a', c', h2, h3⟩ => ⟨h1, a', c', by rw [he, h2], h3⟩)⟩
  unfold vBytes.M
  refine (Q20 hr (by omega)).mono fun e w4 ⟨he, x4⟩ => ⟨_, he, ?_⟩
  by_cases hright : rightV hs = true
  · rw [hright, Bool.not_true, cond_false]
    have hnat := hn hright
    rw [wu64 (n := (hs.length : Int)) (by omega) (by omega)]
    refine (W.Num_spec (bs := []) (n := hs.length) (RowAt.nil _ none) (by decide) (by omega)).mono fun e w7 ⟨a7, c7, he, ho7, x7'⟩ => ⟨a7, _, c7, he, ?_⟩
    rw [List.nil_append] at ho7 ⊢
    have x7 := x4.trans x7'
    refine ⟨fun k vs w1 => ∃ (t : Nat) (a1 : Option Addr) (c1 : Nat), vs = [.slice a1 (numL hs.length ++ (hs.take t).flatMap hdL).length c1, .int .i64 t] ∧ k + t = hs.length ∧ OwnB w.heap.size w1 a1 c1 (numL hs.length ++ (hs.take t).flatMap hdL) ∧ Ext no w w1, hs.length,
      ⟨0, a7, c7, by simp, rfl, by simpa using OwnB.mono ho7 x4.size, x7⟩, ?_⟩
    rintro k w12 b0 n0 c0 i ⟨t, a1, c1, hvs, hk, ho, hx⟩
    simp only [List.cons.injEq, Value.int.injEq, Value.slice.injEq, true_and, and_true] at hvs
    obtain ⟨⟨rfl, rfl, rfl⟩, rfl⟩ := hvs
    cases k with
    | zero =>
      obtain rfl : t = hs.length := by omega
      rw [show decide ((hs.length : Int) < (hs.length : Int)) = false by simp, cond_false]
      rw [List.take_length] at ho ⊢
      exact ⟨hx, .inr ⟨rfl, _, _, rfl, ho⟩⟩
    | succ k =>
      have ht : t < hs.length := by omega
      rw [show decide ((t : Int) < (hs.length : Int)) = true by simp; omega, cond_true]
      have hr1 := hr.no hx
      obtain ⟨ad, rfl⟩ := hr1.addr (hsC_ne (by intro e; subst e; simp at ht))
      have hgi : hs[t]? = some hs[t] := List.getElem?_eq_getElem ht
      obtain ⟨m1, m2, m3, m4, m5, m6⟩ := hnat hs[t] (List.getElem_mem ht)
      refine ⟨by omega, by omega, _, _, _, by rw [Int.toNat_natCast]; exact hs_at hr1 hgi, Q02 fun w17 h17 => ?_⟩
      have hb17 : Blk w17 w12.heap.size 66 [.int .i64 0, .int .i64 0, .int .u64 0] := by subst h17; exact Blk.new _ _ _
      have x17 : Ext no w12 w17 := by subst h17; exact (Ext.refl _ _).alloc _
      refine ⟨hb17.cana (i := 0) rfl, Q02 fun w18 h18 => ?_⟩
      have hb18 := hb17.seta 0 (.int .i64 hs[t].1)
      rw [← h18] at hb18
      have x18 : Ext no w12 w18 := by subst h18; exact x17.setCell (.inr (by rw [add_zero]; exact Nat.le_refl _)) _
      refine ⟨hb18.cana (i := 1) rfl, Q02 fun w19 h19 => ?_⟩
      have hb19 := hb18.seta 1 (.int .i64 hs[t].2.1)
      rw [← h19] at hb19
      have x19 : Ext no w12 w19 := by subst h19; exact x18.setCell (.inr (by rw [add_blk]; exact Nat.le_refl _)) _
      refine ⟨hb19.cana (i := 2) rfl, Q02 fun w20 h20 => ?_⟩
      have hb20 := hb19.seta 2 (.int .u64 hs[t].2.2)
      rw [← h20] at hb20
      have x20 : Ext no w12 w20 := by subst h20; exact x19.setCell (.inr (by rw [add_blk]; exact Nat.le_refl _)) _
      refine ⟨_, hb20.cella (i := 0) rfl, _, hb20.cella (i := 1) rfl, _, hb20.cella (i := 2) rfl, ?_⟩
      -- the three numbers
      have hlen : (numL hs.length ++ (hs.take t).flatMap hdL).length ≤ 10 + 30 * 1000 := by
        have h1 := numL_le hs.length
        have h2 := hdsL_le (hs.take t)
        rw [List.length_take] at h2
        rw [List.length_append]; omega
      have n1 := numL_le hs[t].1.toNat; have n2 := numL_le hs[t].2.1.toNat; have n3 := numL_le hs[t].2.2.toNat
      rw [wu64 m1 m2, wu64 m3 m4]
      generalize hbase : numL hs.length ++ (hs.take t).flatMap hdL = base at *
      have part : ∀ j : Nat, j ≤ 3 → ((([numL hs[t].1.toNat, numL hs[t].2.1.toNat, numL hs[t].2.2.toNat] : List (List UInt8)).take j).flatten).length ≤ 30 := fun j hj => by
        match j, hj with
        | 0, _ => simp
        | 1, _ => simp; omega
        | 2, _ => simp; omega
        | 3, _ => simp; omega
      refine ⟨fun k2 vs w1 => ∃ (j : Nat) (a2 : Option Addr) (c2 : Nat), vs = [.slice a2 (base ++ (([numL hs[t].1.toNat, numL hs[t].2.1.toNat, numL hs[t].2.2.toNat] : List (List UInt8)).take j).flatten).length c2, .int .i64 j] ∧ k2 + j = 3 ∧ OwnB w.heap.size w1 a2 c2 (base ++ (([numL hs[t].1.toNat, numL hs[t].2.1.toNat, numL hs[t].2.2.toNat] : List (List UInt8)).take j).flatten) ∧ Ext no w w1, 3,
        ⟨0, b0, c0, by simp, rfl, by simpa using ho.no x20, hx.trans x20⟩, ?_⟩
      rintro k2 w28 b2 l2 c2 i2 ⟨j, a2', c2', hvs, hk2, ho2, hx2⟩
      simp only [List.cons.injEq, Value.int.injEq, Value.slice.injEq, true_and, and_true] at hvs
      obtain ⟨⟨rfl, rfl, rfl⟩, rfl⟩ := hvs
      cases k2 with
      | zero =>
        obtain rfl : j = 3 := by omega
        rw [show decide (((3 : Nat) : Int) < 3) = false from rfl, cond_false]
        have hnx : base ++ (([numL hs[t].1.toNat, numL hs[t].2.1.toNat, numL hs[t].2.2.toNat] : List (List UInt8)).take 3).flatten = numL hs.length ++ (hs.take (t + 1)).flatMap hdL := by
          rw [← hbase, List.take_add_one (l := hs) (i := t), hgi, Option.toList_some, List.flatMap_append]
          show (numL hs.length ++ (hs.take t).flatMap hdL) ++ (numL hs[t].1.toNat ++ (numL hs[t].2.1.toNat ++ (numL hs[t].2.2.toNat ++ []))) = numL hs.length ++ ((hs.take t).flatMap hdL ++ (hdL hs[t] ++ []))
          simp only [hdL, List.append_nil, List.append_assoc]
        rw [hnx] at ho2 ⊢
        exact ⟨k, by omega, t + 1, _, _, by rw [w64 (by omega) (by omega)]; rfl, by omega, ho2, hx2⟩
      | succ k2 =>
        have hj : j < 3 := by omega
        rw [show decide ((j : Int) < 3) = true by simp; omega, cond_true]
        refine ⟨by omega, by omega, ?_⟩
        have hp := part j (by omega)
        -- one number more
        have step : ∀ (n : Nat), n < 18446744073709551616 → (([numL hs[t].1.toNat, numL hs[t].2.1.toNat, numL hs[t].2.2.toNat] : List (List UInt8))[j]? = some (numL n)) → ∀ x : Int, x = (n : Int) →
            Calls Try.prog 26 #[.slice b2 (base ++ (([numL hs[t].1.toNat, numL hs[t].2.1.toNat, numL hs[t].2.2.toNat] : List (List UInt8)).take j).flatten).length c2, .int .u64 x] w28 (fun ee31 ww32 => ∃ (num30a : Option Addr) (num30n num30c : Nat), ee31 = .returned (.slice num30a num30n num30c) ∧
              ∃ m33, m33 < k2 + 1 ∧ ∃ (j' : Nat) (a2 : Option Addr) (c2 : Nat), [Value.slice num30a num30n num30c, .int .i64 (IntKind.i64.wrap ((j : Int) + 1))] = [.slice a2 (base ++ (([numL hs[t].1.toNat, numL hs[t].2.1.toNat, numL hs[t].2.2.toNat] : List (List UInt8)).take j').flatten).length c2, .int .i64 j'] ∧ m33 + j' = 3 ∧ OwnB w.heap.size ww32 a2 c2 (base ++ (([numL hs[t].1.toNat, numL hs[t].2.1.toNat, numL hs[t].2.2.toNat] : List (List UInt8)).take j').flatten) ∧ Ext no w ww32) := fun n hn64 hj2 x hx' => by
          subst hx'
          refine (W.Num_spec (c := c2) ho2.row (by rw [List.length_append]; omega) hn64).mono fun e w32 ⟨a3, c3, he, ho3, x3⟩ => ⟨a3, _, c3, he, k2, by omega, j + 1, a3, c3, ?_, by omega, ?_, hx2.trans x3⟩
          · rw [w64 (by omega) (by omega), List.take_add_one, hj2]
            simp [List.append_assoc]
          · rw [List.take_add_one, hj2]
            have := OwnB.mono ho3 hx2.size
            simpa [List.append_assoc] using this
        refine ⟨fun h => ?_, fun h => ?_, fun h => ?_, trivial⟩
        · obtain rfl : j = 0 := by omega
          exact step hs[t].1.toNat (by omega) rfl hs[t].1 (by omega)
        · obtain rfl : j = 1 := by omega
          exact step hs[t].2.1.toNat (by omega) rfl hs[t].2.1 (by omega)
        · obtain rfl : j = 2 := by omega
          exact step hs[t].2.2.toNat (by omega) rfl hs[t].2.2 (by omega)
  · rw [show rightV hs = false by simpa using hright, Bool.not_false, cond_true]
    exact ⟨x4, .inl ⟨rfl, rfl⟩⟩

/-! ### reading -/
def readF : Nat → List Hd → List UInt8 × Int → List Hd × (List UInt8 × Int)
  | 0, hs, s => (hs, s)
  | n + 1, hs, s =>
    readF n (hs ++ [(((countR 7 s).1 : Int), (((countR 200 (countR 7 s).2).1 : Int), ((numR (countR 200 (countR 7 s).2).2).1 : Int)))]) (numR (countR 200 (countR 7 s).2).2).2
def readAll (b : List UInt8) : List Hd × (List UInt8 × Int) := readF (countR 8 (b, 0)).1 [] (countR 8 (b, 0)).2
def readV (b : List UInt8) : List Hd × Int :=
  if doneR (readAll b).2 ≠ 0 then ([], doneR (readAll b).2) else if rightV (readAll b).1 then ((readAll b).1, 0) else ([], 4)

structure OwnH (N : Nat) (w : World) (a : Option Addr) (c : Nat) (hs : List Hd) : Prop where
  own : w.ownsRow 0 66 3 (.slice a hs.length c) hs.length (hsC hs)
  fr : ∀ ad, a = some ad → N ≤ ad.block ∧ ad.block < w.heap.size
theorem OwnH.row {N : Nat} (h : OwnH N w a c hs) : RowAt w a (hsC hs) := by
  obtain ⟨_, _, hv, hr⟩ := RowAt.of_owns h.own
  cases hv; exact hr
theorem OwnH.ext {N : Nat} {m : Nat → Prop} (h : OwnH N w a c hs) (k : Ext m w w') (hm : ∀ ad, a = some ad → ¬ m ad.block) : OwnH N w' a c hs :=
  ⟨Q5w h.own k fun q hq => by
    cases a with
    | none => simp [Value.ownBlock] at hq
    | some ad => simp only [Value.ownBlock, Option.some.injEq] at hq; subst hq; exact hm ad rfl, fun ad ha => ⟨(h.fr ad ha).1, Nat.lt_of_lt_of_le (h.fr ad ha).2 k.size⟩⟩
theorem OwnH.push {N : Nat} {ty : TypeId} (hty : Try.prog.underlying ty = some (.slice 66)) (h : OwnH N w a c hs) (hN : N ≤ w.heap.size) (hl : hs.length ≤ 1000000) {xa : Option Addr} {x : Hd} (hx : RowAt w xa (hdC x)) :
    ∃ a' c' w', (Builtin.append_ #[ty, ty] ty #[.slice a hs.length c, .slice xa 1 1]).run Try.prog w = .ok (.slice a' (hs.length + 1) c') w' ∧ OwnH N w' a' c' (hs ++ [x]) ∧ Ext (fun b => N ≤ b ∧ ∀ ad, a = some ad → b = ad.block ∨ w.heap.size ≤ b) w w' ∧ (∀ ad, a' = some ad → (∃ b, a = some b ∧ ad.block = b.block) ∨ w.heap.size ≤ ad.block) := by
  obtain ⟨i, hi, hz, hs', hby⟩ := info_of infHead
  obtain ⟨a', c', w2, hr, ho, hg, hb⟩ := Q1r (ty := ty) hty hi hz hs' hby rfl (by decide) h.own (xa := xa) (m := 1) (c := 1) rfl hx (fun u hu => by
    simp only [hdC, List.mem_cons, List.not_mem_nil, or_false] at hu
    rcases hu with rfl | rfl | rfl <;> rfl) (by omega) (by omega)
  have hrow : ∀ q, (Value.slice a hs.length c).ownBlock = some q → N ≤ q ∧ ∀ ad, a = some ad → q = ad.block := fun q hq => by
    cases a with
    | none => simp [Value.ownBlock] at hq
    | some ad => simp only [Value.ownBlock, Option.some.injEq] at hq; subst hq; exact ⟨(h.fr ad rfl).1, fun ad' ha' => by cases ha'; rfl⟩
  refine ⟨a', c', w2, hr, ⟨?_, fun ad ha => ⟨?_, (Q1l ho).2 ad ha⟩⟩, Ext.of_grown hg fun q hq => .inl ⟨(hrow q hq).1, fun ad ha => .inl ((hrow q hq).2 ad ha)⟩, fun ad ha => ?_⟩
  · rw [List.length_append, show hsC (hs ++ [x]) = hsC hs ++ hdC x by simp [hsC]]; exact ho
  · subst ha
    rcases hb with hq | hq
    · exact (hrow _ hq.symm).1
    · simp only [Value.ownBlock, Option.some.injEq] at hq; omega
  · subst ha
    rcases hb with hq | hq
    · cases a with
      | none => simp [Value.ownBlock] at hq
      | some b => exact .inl ⟨b, rfl, by simpa [Value.ownBlock] using hq⟩
    · simp only [Value.ownBlock, Option.some.injEq] at hq; exact .inr (by omega)
end
open W (OwnB Rd GivesW numR countR doneR)
section
variable {w w' : World} {a : Option Addr} {c : Nat} {hs : List Hd}
theorem OwnH.mono {N M : Nat} (h : OwnH N w a c hs) (hM : M ≤ N) : OwnH M w a c hs := ⟨h.own, fun ad ha => ⟨Nat.le_trans hM (h.fr ad ha).1, (h.fr ad ha).2⟩⟩
theorem Q2m (m : Int) (s : List UInt8 × Int) (hm : 0 ≤ m) : ((countR m s).1 : Int) ≤ m := by
  unfold countR
  split
  · split
    · exact hm
    · rename_i h; exact Decidable.byContradiction fun e => h (.inr (by omega))
  · exact hm

theorem Q4M {b : List UInt8} (hr : RowAt w a (bytesV b)) (hc : b.length ≤ c) (hl : b.length < 1000000) :
    Calls Try.prog 93 #[.slice a b.length c] w (fun e w' => ∃ ra rc, e = .returned (.tuple #[.slice ra (readV b).1.length rc, .int .i64 (readV b).2]) ∧ OwnH w.heap.size w' ra rc (readV b).1 ∧ Ext no w w') := by
  refine (vRead.ok _ _ _ (R := fun v w' => ∃ ra rc, v = .tuple #[.slice ra (readV b).1.length rc, .int .i64 (readV b).2] ∧ OwnH w.heap.size w' ra rc (readV b).1 ∧ Ext no w w') ?_).mono fun e w' ⟨v, he, ra, rc, hv, hw⟩ => ⟨ra, rc, by rw [he, hv], hw⟩
  unfold vRead.M
  refine (W.Read_spec hr hc).mono fun e w4 ⟨p, he, hR4, hp, x4⟩ => ⟨_, he, ?_⟩
  have pnew : ∀ {w1 w2 : World}, Ext no w w1 → Ext (fun b => b = p) w1 w2 → Ext no w w2 := fun h k => h.then k fun q hq => .inr (by omega)
  refine (W.Count_spec hR4 hl (m := 8) (by decide)).mono fun e w7 ⟨he, hR7, x7'⟩ => ⟨_, he, ?_⟩
  have x7 := pnew x4 x7'
  have hn8 := Q2m 8 (b, 0) (by decide)
  have hcl := W.countR_len 8 (b, 0)
  have nilH : ∀ N w1, OwnH N w1 none 0 [] := fun N w1 => ⟨Q3y _ _ _, fun ad ha => by cases ha⟩
  refine ⟨fun k vs w1 => ∃ (t : Nat) (va : Option Addr) (vc : Nat) (l : List Hd) (s : List UInt8 × Int), vs = [.slice va l.length vc, .int .i64 t] ∧ k + t = (countR 8 (b, 0)).1 ∧ l.length = t ∧ Rd w1 p s.1 s.2 ∧ s.1.length ≤ b.length ∧ OwnH (p + 1) w1 va vc l ∧ (∀ ad, va = some ad → ad.block ≠ p) ∧ readF k l s = readAll b ∧ Ext no w w1, (countR 8 (b, 0)).1,
    ⟨0, none, 0, [], (countR 8 (b, 0)).2, rfl, rfl, rfl, hR7, hcl, nilH _ _, (fun ad ha => by cases ha), rfl, x7⟩, ?_⟩
  rintro k w12 v0 n0 c0 i ⟨t, va, vc, l, s, hvs, hk, hlt2, hR, hsl, hO, hOp, hF, hx⟩
  simp only [List.cons.injEq, Value.int.injEq, Value.slice.injEq, true_and, and_true] at hvs
  obtain ⟨⟨rfl, rfl, rfl⟩, rfl⟩ := hvs
  cases k with
  | zero =>
    rw [show decide ((t : Int) < ((countR 8 (b, 0)).1 : Int)) = false by simp; omega, cond_false]
    simp only [readF] at hF
    refine (W.Done_spec hR).mono fun e w35 ⟨he, hw⟩ => ⟨_, he, ?_⟩
    subst hw
    unfold readV
    rw [← hF]
    by_cases hd : doneR (s.1, s.2) ≠ 0
    · rw [show (doneR (s.1, s.2) != 0) = true by simpa using hd, cond_true, if_pos hd]
      exact ⟨none, 0, rfl, nilH _ _, hx⟩
    · rw [show (doneR (s.1, s.2) != 0) = false by simpa using hd, cond_false, if_neg hd]
      refine (Q20 hO.row (by have := hn8; omega)).mono fun e w38 ⟨he, x38⟩ => ⟨_, he, ?_⟩
      by_cases hri : rightV l = true
      · rw [hri, Bool.not_true, cond_false, if_pos rfl]
        exact ⟨_, _, rfl, (hO.ext x38 (fun _ _ h => h)).mono (by omega), hx.trans x38⟩
      · rw [show rightV l = false by simpa using hri, Bool.not_false, cond_true, if_neg (by decide)]
        exact ⟨none, 0, rfl, nilH _ _, hx.trans x38⟩
  | succ k =>
    rw [show decide ((t : Int) < ((countR 8 (b, 0)).1 : Int)) = true by simp; omega, cond_true]
    refine Q02 fun w13 h13 => ?_
    have x13' : Ext no w12 w13 := by subst h13; exact (Ext.refl _ _).alloc _
    have hH13 : Blk w13 w12.heap.size 66 (hdC (0, 0, 0)) := by subst h13; exact Blk.new _ _ _
    have x13 := hx.trans x13'
    have hpl0 := W.Rd.lt hR
    have hpH : w12.heap.size ≠ p := by omega
    have hR13 := W.Rd.no hR x13'
    have hO13 := hO.ext x13' (fun _ _ h => h)
    -- three numbers
    refine (W.Count_spec hR13 (Nat.lt_of_le_of_lt hsl hl) (m := 7) (by decide)).mono fun e w16 ⟨he, hR16, x16'⟩ => ⟨_, he, ?_⟩
    have l16 : (countR 7 (s.1, s.2)).2.1.length ≤ s.1.length := W.countR_len 7 (s.1, s.2)
    have x16 := pnew x13 x16'
    have hH16 := hH13.ext x16' hpH
    have hO16 := hO13.ext x16' hOp
    rw [add_zero]
    refine ⟨hH16.cana (i := 0) rfl, Q02 fun w17 h17 => ?_⟩
    have hH17 : Blk w17 w12.heap.size 66 (hdC ((countR 7 (s.1, s.2)).1, 0, 0)) := by subst h17; exact hH16.seta 0 _
    have x17' : Ext (fun b => b = w12.heap.size) w16 w17 := by subst h17; exact (Ext.refl (fun b => b = w12.heap.size) w16).setCell (a := (blk w12.heap.size).add 0) (.inl rfl) _
    have hR17 := W.Rd.up hR16 x17' (fun q hq => by omega)
    have hOH : ∀ ad, v0 = some ad → ¬ ad.block = w12.heap.size := fun ad ha e => by have := (hO.fr ad ha).2; omega
    have hO17 := hO16.ext x17' hOH
    have x17 : Ext no w w17 := x16.then x17' fun q hq => .inr (by have := hx.size; omega)
    refine (W.Count_spec hR17 (Nat.lt_of_le_of_lt (Nat.le_trans l16 hsl) hl) (m := 200) (by decide)).mono fun e w20 ⟨he, hR20, x20'⟩ => ⟨_, he, ?_⟩
    have l20 : (countR 200 (countR 7 (s.1, s.2)).2).2.1.length ≤ (countR 7 (s.1, s.2)).2.1.length := W.countR_len 200 (countR 7 (s.1, s.2)).2
    have x20 := pnew x17 x20'
    have hH20 := hH17.ext x20' hpH
    have hO20 := hO17.ext x20' hOp
    rw [add_zero]
    refine ⟨hH20.cana (i := 1) rfl, Q02 fun w21 h21 => ?_⟩
    have hH21 : Blk w21 w12.heap.size 66 (hdC ((countR 7 (s.1, s.2)).1, (countR 200 (countR 7 (s.1, s.2)).2).1, 0)) := by subst h21; exact hH20.seta 1 _
    have x21' : Ext (fun b => b = w12.heap.size) w20 w21 := by subst h21; exact (Ext.refl (fun b => b = w12.heap.size) w20).setCell (a := (blk w12.heap.size).add 1) (.inl (by rw [add_blk])) _
    have hR21 := W.Rd.up hR20 x21' (fun q hq => by omega)
    have hO21 := hO20.ext x21' hOH
    have x21 : Ext no w w21 := x20.then x21' fun q hq => .inr (by have := hx.size; omega)
    refine (W.RNum_spec hR21 (Nat.lt_of_le_of_lt (Nat.le_trans l20 (Nat.le_trans l16 hsl)) hl)).mono fun e w24 ⟨he, hR24, x24'⟩ => ⟨_, he, ?_⟩
    have l24 : (numR (countR 200 (countR 7 (s.1, s.2)).2).2).2.1.length ≤ (countR 200 (countR 7 (s.1, s.2)).2).2.1.length := W.numR_len (countR 200 (countR 7 (s.1, s.2)).2).2
    have x24 := pnew x21 x24'
    have hH24 := hH21.ext x24' hpH
    have hO24 := hO21.ext x24' hOp
    rw [add_zero]
    refine ⟨hH24.cana (i := 2) rfl, Q02 fun w25 h25 => ?_⟩
    have hH25 : Blk w25 w12.heap.size 66 (hdC ((countR 7 (s.1, s.2)).1, (countR 200 (countR 7 (s.1, s.2)).2).1, (numR (countR 200 (countR 7 (s.1, s.2)).2).2).1)) := by subst h25; exact hH24.seta 2 _
    have x25' : Ext (fun b => b = w12.heap.size) w24 w25 := by subst h25; exact (Ext.refl (fun b => b = w12.heap.size) w24).setCell (a := (blk w12.heap.size).add 2) (.inl (by rw [add_blk])) _
    have hR25 := W.Rd.up hR24 x25' (fun q hq => by omega)
    have hO25 := hO24.ext x25' hOH
    have x25 : Ext no w w25 := x24.then x25' fun q hq => .inr (by have := hx.size; omega)
    refine ⟨_, _, _, ⟨hH25.cella (i := 0) rfl, hH25.cella (i := 1) rfl, hH25.cella (i := 2) rfl, trivial⟩, Q02 fun w29 h29 => ?_⟩
    have x29' : Ext no w25 w29 := by subst h29; exact (Ext.refl _ _).alloc _
    have hb29 : Blk w29 w25.heap.size 66 (hdC ((countR 7 (s.1, s.2)).1, (countR 200 (countR 7 (s.1, s.2)).2).1, (numR (countR 200 (countR 7 (s.1, s.2)).2).2).1)) := by subst h29; exact Blk.new _ _ _
    have x29 := x25.trans x29'
    have hO29 := hO25.ext x29' (fun _ _ h => h)
    obtain ⟨a', c', w31, hrun, hO31, x31', hblk⟩ := hO29.push (ty := 36) Try.underlying36 (by have := W.Rd.lt hR25; have := x29'.size; omega) (by omega) (RowAt.of_blk hb29)
    have hlast : w25.heap.size + 1 = w29.heap.size := by subst h29; simp
    have hpl : p < w25.heap.size := W.Rd.lt hR25
    have hR29 := W.Rd.no hR25 x29'
    -- the append turns the row of the heads, or makes another
    have hR31 : Rd w31 p (numR (countR 200 (countR 7 (s.1, s.2)).2).2).2.1 (numR (countR 200 (countR 7 (s.1, s.2)).2).2).2.2  := W.Rd.up hR29 x31' fun q hq => by have := hq.1; omega
    refine ⟨a', _, c', w31, hrun, k, by omega, t + 1, a', c', _, (numR (countR 200 (countR 7 (s.1, s.2)).2).2).2, ?_, by omega, ?_, hR31, by omega, hO31, fun ad ha => ?_, hF, x29.then x31' fun q hq => .inr (by have := hq.1; omega)⟩
    · rw [w64 (by omega) (by omega), List.length_append]; rfl
    · rw [List.length_append]; simp; omega
    · rcases hblk ad ha with ⟨b0, hb0, e0⟩ | h
      · rw [e0]; exact hOp b0 hb0
      · omega

theorem eqf_step {P : Program} {w : World} {d : Nat} {xs ys : Array Value} {f : Field} {fs : List Field} {a b : Value} {r : Bool} (n : f.name ≠ "_") (qa : (part f.type xs f.offset).run P w = .ok a w) (qb : (part f.type ys f.offset).run P w = .ok b w) (he : (Op.equalIn d f.type a b).run P w = .ok r w) :
    (Op.eqFields d xs ys (f :: fs)).run P w = if r then (Op.eqFields d xs ys fs).run P w else .ok false w := by
  simp only [Op.eqFields, n, ne_eq, not_false_eq_true, if_true, Sem.run_bind, qa, qb, he, Result.andThen_ok]
  cases r <;> simp
theorem Q4x (w : World) (x y : Hd) : (binOp .neq 66 (hdV x) (hdV y)).run Try.prog w = .ok (.bool (decide (x ≠ y))) w := by
  obtain ⟨f0, f1, f2, ht, n0, n1, n2, o0, o1, o2, p0, p1, p2, u0, u1, u2, hp⟩ : ∃ f0 f1 f2, Try.prog.underlying 66 = some (.struct #[f0, f1, f2]) ∧ f0.name ≠ "_" ∧ f1.name ≠ "_" ∧ f2.name ≠ "_" ∧ f0.offset = 0 ∧ f1.offset = 1 ∧ f2.offset = 2 ∧
      Try.prog.plainKey f0.type = true ∧ Try.prog.plainKey f1.type = true ∧ Try.prog.plainKey f2.type = true ∧ Try.prog.underlying f0.type = some (.int .i64) ∧ Try.prog.underlying f1.type = some (.int .i64) ∧ Try.prog.underlying f2.type = some (.int .u64) ∧ Try.prog.stoodInHeld 66 = false :=
    ⟨_, _, _, Try.underlying66, by decide, by decide, by decide, rfl, rfl, rfl, by kernel_rfl, by kernel_rfl, by kernel_rfl, Try.underlying3, Try.underlying3, Try.underlying22, by kernel_rfl⟩
  have hf : Try.prog.fieldsOf 66 = #[f0, f1, f2] := by simp [Program.fieldsOf, ht]
  unfold hdV
  rw [run_neq_struct, show (10000 : Nat) = 9998 + 1 + 1 from rfl, run_equalIn_struct w (9998 + 1) _ _ _ (by rw [hf]; exact ht) hp, hf]
  have q : ∀ (z : Hd) (i : Nat) (f : Field) (v : Value), Try.prog.plainKey f.type = true → f.offset = i → (#[Value.int .i64 z.1, .int .i64 z.2.1, .int .u64 z.2.2] : Array Value)[i]? = some v → (part f.type #[Value.int .i64 z.1, .int .i64 z.2.1, .int .u64 z.2.2] f.offset).run Try.prog w = .ok v w := fun z i f v h1 h2 h3 => run_part_plain w h1 (by rw [h2]; exact h3)
  show Result.andThen ((Op.eqFields (9998 + 1) _ _ [f0, f1, f2]).run Try.prog w) _ = _
  rw [eqf_step n0 (q x 0 f0 _ p0 o0 rfl) (q y 0 f0 _ p0 o0 rfl) (run_equalIn_int w _ _ _ _ _ _ u0), eqf_step n1 (q x 1 f1 _ p1 o1 rfl) (q y 1 f1 _ p1 o1 rfl) (run_equalIn_int w _ _ _ _ _ _ u1), eqf_step n2 (q x 2 f2 _ p2 o2 rfl) (q y 2 f2 _ p2 o2 rfl) (run_equalIn_int w _ _ _ _ _ _ u2)]
  obtain ⟨x0, x1, x2⟩ := x
  obtain ⟨y0, y1, y2⟩ := y
  by_cases e0 : x0 = y0 <;> by_cases e1 : x1 = y1 <;> by_cases e2 : x2 = y2 <;> simp [e0, e1, e2, Op.eqFields]
theorem Q4L {aa ba : Option Addr} {ac bc : Nat} {x y : List Hd} (ha : RowAt w aa (hsC x)) (hb : RowAt w ba (hsC y)) (hx : x.length < 1000000) :
    Calls Try.prog 36 #[.slice aa x.length ac, .slice ba y.length bc] w (GivesV (.bool (decide (x = y))) fun w' => Ext no w w') := by
  refine (rSame5.ok _ _ _ _ _ _ (R := fun v w' => v = .bool (decide (x = y)) ∧ Ext no w w') ?_).mono fun e w' ⟨v, he, hv, hw⟩ => ⟨by rw [he, hv], hw⟩
  unfold rSame5.M
  by_cases hl : x.length = y.length
  · have hl' : ((x.length : Int) != (y.length : Int)) = false := by simp [hl]
    rw [hl', cond_false]
    refine ⟨fun k vs w1 => ∃ i : Nat, vs = [.int .i64 i] ∧ k + i = x.length ∧ x.take i = y.take i ∧ Ext no w w1, x.length, ⟨0, rfl, rfl, rfl, Ext.refl _ _⟩, ?_⟩
    rintro k w1 i3 ⟨i, hi, hk, ht, hw⟩
    simp only [List.cons.injEq, Value.int.injEq, true_and, and_true] at hi
    subst hi
    cases k with
    | succ k =>
      have hlt : i < x.length := by omega
      have hi2 : i < y.length := by omega
      rw [show decide ((i : Int) < (x.length : Int)) = true by simp; omega, cond_true]
      refine Q02 fun w7 h7 => ?_
      have hw7 : Ext no w w7 := hw.trans (by subst h7; exact (Ext.refl _ _).drew)
      have hax := ha.no hw7
      have hby := hb.no hw7
      obtain ⟨ad, rfl⟩ := hax.addr (hsC_ne (by intro e; subst e; simp at hlt))
      obtain ⟨bd, rfl⟩ := hby.addr (hsC_ne (by intro e; subst e; simp at hi2))
      refine ⟨by omega, by omega, _, _, _, by rw [Int.toNat_natCast]; exact hs_at hax (List.getElem?_eq_getElem hlt), by omega, by omega, _, _, _, by rw [Int.toNat_natCast]; exact hs_at hby (List.getElem?_eq_getElem hi2), _, Q4x w7 x[i] y[i], ?_⟩
      by_cases he : x[i] = y[i]
      · rw [decide_eq_false (by simpa using he), cond_false]
        refine ⟨k, by omega, i + 1, by rw [w64 (by omega) (by omega)]; rfl, by omega, ?_, hw7⟩
        rw [List.take_add_one, List.take_add_one, ht]; simp [hlt, hi2, he]
      · rw [decide_eq_true he, cond_true]
        exact ⟨by rw [decide_eq_false]; rintro rfl; exact he rfl, hw7⟩
    | zero =>
      rw [show decide ((i : Int) < (x.length : Int)) = false by simp; omega, cond_false]
      obtain rfl : i = x.length := by omega
      refine ⟨?_, hw⟩
      have : x = y := by
        rw [List.take_length] at ht
        rw [hl, List.take_length] at ht
        exact ht
      simp [this]
  · have hl' : ((x.length : Int) != (y.length : Int)) = true := by simp; omega
    rw [hl', cond_true]
    exact ⟨by rw [decide_eq_false]; rintro rfl; exact hl rfl, Ext.refl _ _⟩
theorem sameB_spec {a b : Option Addr} {c d : Nat} {x y : List UInt8} (ha : RowAt w a (bytesV x)) (hb : RowAt w b (bytesV y)) (hx : x.length < 1000000) :
    Calls Try.prog 11 #[.slice a x.length c, .slice b y.length d] w (GivesV (.bool (decide (x = y))) fun w' => Ext no w w') := by
  refine (wSame.ok _ _ _ _ _ _ (R := fun v w' => v = .bool (decide (x = y)) ∧ Ext no w w') ?_).mono fun e w' ⟨v, he, hv, hw⟩ => ⟨by rw [he, hv], hw⟩
  unfold wSame.M
  by_cases hl : x.length = y.length
  · have hl' : ((x.length : Int) != (y.length : Int)) = false := by simp [hl]
    rw [hl', cond_false]
    refine ⟨fun k vs w1 => ∃ i : Nat, vs = [.int .i64 i] ∧ k = x.length - i ∧ i ≤ x.length ∧ x.take i = y.take i ∧ Ext no w w1, x.length, ⟨0, rfl, rfl, Nat.zero_le _, rfl, Ext.refl _ _⟩, ?_⟩
    rintro k w1 i3 ⟨i, hi, rfl, hle, ht, hw⟩
    simp only [List.cons.injEq, Value.int.injEq, true_and, and_true] at hi
    subst hi
    by_cases hlt : i < x.length
    · have hd : decide ((i : Int) < (x.length : Int)) = true := by simp [hlt]
      rw [hd, cond_true]
      refine Q02 fun w7 h7 => ?_
      have hw7 : Ext no w w7 := hw.trans (by subst h7; exact (Ext.refl _ _).drew)
      have hi2 : i < y.length := hl ▸ hlt
      have hax := ha.ext hw7 (fun _ _ h => h)
      have hby := hb.ext hw7 (fun _ _ h => h)
      obtain ⟨ad, rfl⟩ := hax.addr (by intro e; rw [bytesV, List.map_eq_nil_iff] at e; subst e; simp at hlt)
      obtain ⟨bd, rfl⟩ := hby.addr (by intro e; rw [bytesV, List.map_eq_nil_iff] at e; subst e; simp at hi2)
      refine ⟨by omega, by omega, x[i].toNat, ?_, by omega, by omega, y[i].toNat, ?_, ?_⟩
      · rw [show Int.toNat (i : Int) * 1 = i by omega]; exact hax.at_ (Q14 hlt)
      · rw [show Int.toNat (i : Int) * 1 = i by omega]; exact hby.at_ (Q14 hi2)
      · by_cases he : x[i] = y[i]
        · have h1 : ((x[i].toNat : Int) != (y[i].toNat : Int)) = false := by simp [he]
          rw [h1, cond_false]
          refine ⟨x.length - (i + 1), by omega, i + 1, by rw [w64 (by omega) (by omega)]; rfl, rfl, by omega, ?_, hw7⟩
          rw [List.take_add_one, List.take_add_one, ht]; simp [hlt, hi2, he]
        · have h1 : ((x[i].toNat : Int) != (y[i].toNat : Int)) = true := by
            simp only [bne_iff_ne, ne_eq, Int.natCast_inj, UInt8.toNat_inj]; exact he
          rw [h1, cond_true]
          exact ⟨by rw [decide_eq_false]; rintro rfl; exact he rfl, hw7⟩
    · have hd : decide ((i : Int) < (x.length : Int)) = false := by simp; omega
      rw [hd, cond_false]
      obtain rfl : i = x.length := by omega
      refine ⟨?_, hw⟩
      have : x = y := by
        rw [List.take_length] at ht
        rw [hl, List.take_length] at ht
        exact ht
      simp [this]
  · have hl' : ((x.length : Int) != (y.length : Int)) = true := by simp; omega
    rw [hl', cond_true]
    exact ⟨by rw [decide_eq_false]; rintro rfl; exact hl rfl, Ext.refl _ _⟩
end

/-! ### the plain law: what is written is read, and what is read is what was written -/
theorem numR_write {n : Nat} (h : n < 18446744073709551616) (r : List UInt8) : numR (numL n ++ r, 0) = (n, (r, 0)) := by
  unfold numR; rw [if_pos rfl, rd_num h]
theorem countR_write {n : Nat} {m : Int} (h : n < 18446744073709551616) (hm : (n : Int) ≤ m) (r : List UInt8) : countR m (numL n ++ r, 0) = (n, (r, 0)) := by
  unfold countR
  rw [numR_write h, if_pos rfl, if_neg (by show ¬ (m < 0 ∨ (n : Int) > m); omega)]
theorem Q3C {s : List UInt8 × Int} (h : s.2 ≠ 0) : (numR s).2.2 ≠ 0 := by
  unfold numR; rw [if_neg h]; exact h
theorem numR_good {s : List UInt8 × Int} (h : (numR s).2.2 = 0) : s.2 = 0 ∧ s.1 = numL (numR s).1 ++ (numR s).2.1 := by
  have h0 : s.2 = 0 := Decidable.byContradiction fun e => Q3C e h
  refine ⟨h0, ?_⟩
  unfold numR at h ⊢
  rw [if_pos h0] at h ⊢
  cases hr : rdNum s.1 with
  | none => rw [hr] at h; exact absurd h (by decide)
  | some q => obtain ⟨n, r⟩ := q; exact (rd_back hr).1
theorem countR_good {m : Int} {s : List UInt8 × Int} (h : (countR m s).2.2 = 0) : s.2 = 0 ∧ s.1 = numL (countR m s).1 ++ (countR m s).2.1 := by
  unfold countR at h ⊢
  by_cases h1 : (numR s).2.2 = 0
  · rw [if_pos h1] at h ⊢
    by_cases h2 : m < 0 ∨ ((numR s).1 : Int) > m
    · rw [if_pos h2] at h; exact absurd h (by decide)
    · rw [if_neg h2]; exact numR_good h1
  · rw [if_neg h1] at h; exact absurd h h1
theorem Q3m : ∀ (hs l : List Hd), (∀ h ∈ hs, rhead h = true ∧ 0 ≤ h.2.2 ∧ h.2.2 < 18446744073709551616) → readF hs.length l (hs.flatMap hdL, 0) = (l ++ hs, ([], 0))
  | [], l, _ => by simp [readF]
  | h :: r, l, hh => by
    obtain ⟨h1, h2, h3⟩ := hh h List.mem_cons_self
    simp only [rhead, Bool.and_eq_true, decide_eq_true_eq] at h1
    obtain ⟨a1, a2, a3, a4, _⟩ := h1
    simp only [List.length_cons, readF, List.flatMap_cons, hdL, List.append_assoc]
    rw [countR_write (by omega) (by omega), countR_write (by omega) (by omega), numR_write (by omega)]
    have he : (((h.1.toNat : Nat) : Int), ((h.2.1.toNat : Nat) : Int), ((h.2.2.toNat : Nat) : Int)) = h := by
      obtain ⟨x, y, z⟩ := h
      simp only at *
      rw [Int.toNat_of_nonneg (by omega), Int.toNat_of_nonneg (by omega), Int.toNat_of_nonneg (by omega)]
    simp only []
    rw [he, Q3m r (l ++ [h]) fun q hq => hh q (List.mem_cons_of_mem _ hq)]
    simp
theorem Q3r : ∀ (n : Nat) (l : List Hd) (s : List UInt8 × Int), (readF n l s).2.2 = 0 → s.2 = 0 ∧ ∃ hs : List Hd, (readF n l s).1 = l ++ hs ∧ hs.length = n ∧ s.1 = hs.flatMap hdL ++ (readF n l s).2.1 ∧ ∀ h ∈ hs, natH h
  | 0, l, s, h => ⟨h, [], by simp [readF], rfl, rfl, by simp⟩
  | n + 1, l, s, h => by
    simp only [readF] at h ⊢
    obtain ⟨k3, hs, e1, e2, e3, e4⟩ := Q3r n _ _ h
    obtain ⟨k2, f2⟩ := numR_good k3
    obtain ⟨k1, f1⟩ := countR_good k2
    obtain ⟨k0, f0⟩ := countR_good k1
    have l1 := Q2m 7 s (by decide)
    have l2 := Q2m 200 (countR 7 s).2 (by decide)
    have l3 := W.numR_lt (countR 200 (countR 7 s).2).2
    refine ⟨k0, _ :: hs, by rw [e1, List.append_assoc]; rfl, by rw [List.length_cons, e2], ?_, fun q hq => ?_⟩
    · rw [f0, f1, f2, e3]
      simp [hdL]
    · rcases List.mem_cons.1 hq with rfl | hq
      · refine ⟨?_, ?_, ?_, ?_, ?_, ?_⟩ <;> first | omega | (dsimp only; omega)
      · exact e4 q hq
theorem Q1P {hs : List Hd} (h : rightV hs = true) : hs.length ≤ 8 := by
  by_cases h0 : hs.length = 0
  · omega
  have key : ∀ i (hi : i < hs.length), (i : Int) ≤ hs[i].1 := by
    intro i
    induction i with
    | zero =>
      intro hi
      have := Q1u h hs[0] (List.getElem_mem hi)
      simp only [rhead, Bool.and_eq_true, decide_eq_true_eq] at this
      have := this.1
      omega
    | succ i ih =>
      intro hi
      have h1 := ih (by omega)
      have h2 := Q59 hs h (i := i) (j := i + 1) (by omega) (List.getElem?_eq_getElem (by omega)) (List.getElem?_eq_getElem hi)
      omega
  have h1 := key (hs.length - 1) (by omega)
  have := Q1u h hs[hs.length - 1] (List.getElem_mem (by omega))
  simp only [rhead, Bool.and_eq_true, decide_eq_true_eq] at this
  have := this.2.1
  omega
theorem Q3b {hs : List Hd} (h : rightV hs = true) (hf : ∀ h ∈ hs, 0 ≤ h.2.2 ∧ h.2.2 < 18446744073709551616) : readV (vecL hs) = (hs, 0) := by
  have hl := Q1P h
  have hra : readAll (vecL hs) = (hs, ([], 0)) := by
    unfold readAll vecL
    rw [countR_write (by omega) (by omega)]
    show readF hs.length [] (hs.flatMap hdL, 0) = _
    rw [Q3m hs [] fun q hq => ⟨Q1u h q hq, hf q hq⟩]
    simp
  unfold readV
  rw [hra]
  simp [doneR, h]
theorem Q2t {b : List UInt8} (h : (readV b).2 = 0) : rightV (readV b).1 = true ∧ vecL (readV b).1 = b ∧ ∀ q ∈ (readV b).1, natH q := by
  unfold readV at h ⊢
  by_cases hd : doneR (readAll b).2 ≠ 0
  · rw [if_pos hd] at h; exact absurd h hd
  rw [if_neg hd] at h ⊢
  by_cases hr : rightV (readAll b).1 = true
  · rw [if_pos hr]
    have hd := Decidable.not_not.1 hd
    have hk : (readAll b).2.2 = 0 ∧ (readAll b).2.1 = [] := by
      unfold doneR at hd
      by_cases h0 : (readAll b).2.2 = 0
      · rw [if_pos h0] at hd
        refine ⟨h0, ?_⟩
        by_cases h1 : (readAll b).2.1.length > 0
        · rw [if_pos h1] at hd; exact absurd hd (by decide)
        · exact List.eq_nil_of_length_eq_zero (by omega)
      · rw [if_neg h0] at hd; exact absurd hd h0
    obtain ⟨k0, hs, e1, e2, e3, e4⟩ := Q3r (countR 8 (b, 0)).1 [] (countR 8 (b, 0)).2 hk.1
    obtain ⟨_, f0⟩ := countR_good k0
    rw [List.nil_append] at e1
    have e1' : (readAll b).1 = hs := e1
    refine ⟨hr, ?_, fun q hq => e4 q (by rw [← e1']; exact hq)⟩
    rw [e1', vecL, e2]
    have e3' : (countR 8 (b, 0)).2.1 = hs.flatMap hdL ++ (readAll b).2.1 := e3
    rw [hk.2, List.append_nil] at e3'
    rw [← e3']
    exact f0.symm
  · rw [if_neg hr] at h; exact absurd h (by decide)
theorem Q4Q {b : List UInt8} (h : (readV b).2 ≠ 0) : (readV b).1 = [] := by
  unfold readV at h ⊢
  by_cases hd : doneR (readAll b).2 ≠ 0
  · rw [if_pos hd]
  · rw [if_neg hd] at h ⊢
    by_cases hr : rightV (readAll b).1 = true
    · rw [if_pos hr] at h; exact absurd rfl h
    · rw [if_neg hr]
open W (OwnB Rd GivesW numR countR doneR)
def rBytes5.M (aw : Option Addr) (aj be : Nat) (R : RW) (w : World) : Prop :=
 Calls Try.prog 51 #[.slice aw aj be] w fun bg b8 => ∃ (a8 : Bool), bg = .returned (.bool a8) ∧
 bif !a8 then (
 R (.tuple #[.slice none 0 0, .int .i64 1]) b8) else (
 Calls Try.prog 39 #[.int .u64 (IntKind.u64.wrap (aj : Int))] b8 fun bb bd => ∃ (ae : Option Addr) (ad ac : Nat), bb = .returned (.slice ae ad ac) ∧
 ∃ (I0 : Nat → List Value → World → Prop) (bc : Nat), I0 bc [.slice ae ad ac, .int .i64 0] bd ∧ ∀ (b6 : Nat) (ab : World) (b1 : Option Addr) (b0 b5 : Nat) (i9 : Int), I0 b6 [.slice b1 b0 b5, .int .i64 i9] ab →
 bif decide (i9 < (aj : Int)) then (
 aw.elim False fun b9 =>
 0 ≤ (i9 : Int) ∧ (i9 : Int) < (aj : Int) ∧
 ∃ (a0 : Int), ab.cell? ((b9.add (Int.toNat i9 * 3)).add 0) = some (.int .i64 a0) ∧
 Calls Try.prog 39 #[.int .u64 (IntKind.u64.wrap a0)] ab fun b2 b4 => ∃ (aa : Option Addr) (a9 a6 : Nat), b2 = .returned (.slice aa a9 a6) ∧
 ∃ (ap : Option Addr) (al ao : Nat) (ah : World), (Builtin.append_ #[25, 25] 25 #[.slice b1 b0 b5, .slice aa a9 a6]).run Try.prog b4 = .ok (.slice ap al ao) ah ∧
 aw.elim False fun bf =>
 0 ≤ (i9 : Int) ∧ (i9 : Int) < (aj : Int) ∧
 ∃ (af : Int), ah.cell? ((bf.add (Int.toNat i9 * 3)).add 1) = some (.int .i64 af) ∧
 Calls Try.prog 39 #[.int .u64 (IntKind.u64.wrap af)] ah fun ax ay => ∃ (a5 : Option Addr) (a2 a4 : Nat), ax = .returned (.slice a5 a2 a4) ∧
 ∃ (ak : Option Addr) (aq au : Nat) (ai : World), (Builtin.append_ #[25, 25] 25 #[.slice ap al ao, .slice a5 a2 a4]).run Try.prog ay = .ok (.slice ak aq au) ai ∧
 aw.elim False fun ba =>
 0 ≤ (i9 : Int) ∧ (i9 : Int) < (aj : Int) ∧
 ∃ (ag : Int), ai.cell? ((ba.add (Int.toNat i9 * 3)).add 2) = some (.int .u64 ag) ∧
 Calls Try.prog 39 #[.int .u64 ag] ai fun az b3 => ∃ (a7 : Option Addr) (a1 a3 : Nat), az = .returned (.slice a7 a1 a3) ∧
 ∃ (av : Option Addr) (an ar : Nat) (am : World), (Builtin.append_ #[25, 25] 25 #[.slice ak aq au, .slice a7 a1 a3]).run Try.prog b3 = .ok (.slice av an ar) am ∧
 ∃ b7, b7 < b6 ∧ I0 b7 [.slice av an ar, .int .i64 (IntKind.i64.wrap (i9 + 1))] am) else (
 R (.tuple #[.slice b1 b0 b5, .int .i64 0]) ab))

theorem rBytes5.ok (a2 : Option Addr) (a1 a0 : Nat) {R : RW} {w : World} (h : rBytes5.M a2 a1 a0 R w) : Calls Try.prog 40 #[.slice a2 a1 a0] w fun e w' => ∃ v, e = .returned v ∧ R v w' :=
  Q08 follows (H := [(0, [0], [(4, (.one .slice)), (5, (.one (.int .i64)))])]) (args := [.slice a2 a1 a0]) (cast (by kernel_rfl) h)

def rRight5.M (aa : Option Addr) (a8 ah : Nat) (R : RW) (w : World) : Prop :=
 ∃ (I0 : Nat → List Value → World → Prop) (m3 : Nat), I0 m3 [.int .i64 0] w ∧ ∀ (m4 : Nat) (a9 : World) (i2 : Int), I0 m4 [.int .i64 i2] a9 →
 bif decide (i2 < (a8 : Int)) then (
 thenW (a9.drew) fun ae =>
 aa.elim False fun a7 =>
 0 ≤ (i2 : Int) ∧ (i2 : Int) < (a8 : Int) ∧
 ∃ (a2 a6 a5 : Int), cellsAt ae (a7.add (Int.toNat i2 * 3)) [.int .i64 a2, .int .i64 a6, .int .u64 a5] 0 ∧
 Calls Try.prog 69 #[.agg #[.int .i64 a2, .int .i64 a6, .int .u64 a5]] ae fun ab a4 => ∃ (a0 : Bool), ab = .returned (.bool a0) ∧
 bif !a0 then (
 R (.bool false) a4) else (
 bif decide (i2 > 0) then (
 aa.elim False fun af =>
 0 ≤ ((IntKind.i64.wrap (i2 - 1)) : Int) ∧ ((IntKind.i64.wrap (i2 - 1)) : Int) < (a8 : Int) ∧
 ∃ (a1 : Int), a4.cell? ((af.add (Int.toNat (IntKind.i64.wrap (i2 - 1)) * 3)).add 0) = some (.int .i64 a1) ∧
 aa.elim False fun ag =>
 0 ≤ (i2 : Int) ∧ (i2 : Int) < (a8 : Int) ∧
 ∃ (a3 : Int), a4.cell? ((ag.add (Int.toNat i2 * 3)).add 0) = some (.int .i64 a3) ∧
 bif decide (a1 ≥ a3) then (
 R (.bool false) a4) else (
 ∃ ac, ac < m4 ∧ I0 ac [.int .i64 (IntKind.i64.wrap (i2 + 1))] a4)) else (
 ∃ ad, ad < m4 ∧ I0 ad [.int .i64 (IntKind.i64.wrap (i2 + 1))] a4))) else (
 R (.bool true) a9)

theorem rRight5.ok (a2 : Option Addr) (a1 a0 : Nat) {R : RW} {w : World} (h : rRight5.M a2 a1 a0 R w) : Calls Try.prog 51 #[.slice a2 a1 a0] w fun e w' => ∃ v, e = .returned v ∧ R v w' :=
  Q08 follows (H := [(0, [0], [(3, (.one (.int .i64)))])]) (args := [.slice a2 a1 a0]) (cast (by kernel_rfl) h)

def rRH5.M (a2 a8 a6 : Int) (R : RW) (w : World) : Prop :=
 thenW (w.alloc (.cells #[.int .i64 a2, .int .i64 a8, .int .u64 a6] 66)) fun a3 =>
 ∃ (a1 : Int), a3.cell? ((blk w.heap.size).add 0) = some (.int .i64 a1) ∧
 bif decide (a1 ≥ 0) then (
 ∃ (a0 : Int), a3.cell? ((blk w.heap.size).add 0) = some (.int .i64 a0) ∧
 bif decide (a0 < 8) then (
 ∃ (a7 : Int), a3.cell? ((blk w.heap.size).add 1) = some (.int .i64 a7) ∧
 bif decide (a7 ≥ 1) then (
 ∃ (a5 : Int), a3.cell? ((blk w.heap.size).add 1) = some (.int .i64 a5) ∧
 bif decide (a5 ≤ 200) then (
 ∃ (a4 : Int), a3.cell? ((blk w.heap.size).add 2) = some (.int .u64 a4) ∧
 R (.bool (a4 != 0)) a3) else (
 R (.bool false) a3)) else (
 R (.bool false) a3)) else (
 R (.bool false) a3)) else (
 R (.bool false) a3)

theorem rRH5.ok (a0 a1 a2 : Int) {R : RW} {w : World} (h : rRH5.M a0 a1 a2 R w) : Calls Try.prog 69 #[.agg #[.int .i64 a0, .int .i64 a1, .int .u64 a2]] w fun e w' => ∃ v, e = .returned v ∧ R v w' :=
  Q08 follows (H := []) (args := [.agg #[.int .i64 a0, .int .i64 a1, .int .u64 a2]]) (cast (by kernel_rfl) h)

def rNum.M (n1 : Int) (R : RW) (w : World) : Prop :=
 bif decide (n1 < 128) then (
 thenW (w.alloc (.cells #[.int .u8 (IntKind.u8.wrap n1)] 5)) fun a8 =>
 R (.slice (some (blk w.heap.size)) 1 1) a8) else (
 128 ≠ (0 : Int) ∧ thenW (w.alloc (.cells #[.int .u8 (IntKind.u8.wrap ((IntKind.u8.wrap (Int.tmod n1 128)) + 128))] 5)) fun a7 =>
 128 ≠ (0 : Int) ∧ Calls Try.prog 39 #[.int .u64 (IntKind.u64.wrap (Int.tdiv n1 128))] a7 fun aa a9 => ∃ (a0 : Option Addr) (a2 a1 : Nat), aa = .returned (.slice a0 a2 a1) ∧
 ∃ (a6 : Option Addr) (a3 a4 : Nat) (a5 : World), (Builtin.append_ #[25, 25] 25 #[.slice (some (blk w.heap.size)) 1 1, .slice a0 a2 a1]).run Try.prog a9 = .ok (.slice a6 a3 a4) a5 ∧
 R (.slice a6 a3 a4) a5)

theorem rNum.eq (n1 : Int) (R : RW) (w : World) : mfunc Try.prog [] 39 [.int .u64 n1] R w = rNum.M n1 R w := by kernel_rfl
theorem rNum.ok (n1 : Int) {R : RW} {w : World} (h : rNum.M n1 R w) : Calls Try.prog 39 #[.int .u64 n1] w fun e w' => ∃ v, e = .returned v ∧ R v w' :=
  Q08 follows (H := []) (args := [.int .u64 n1]) (by rw [rNum.eq]; exact h)

theorem Q1Q : ∀ (k m : Nat), m < 128 ^ k → 0 < k → numF (k + 1) m = numF k m
  | k + 1, m, h, _ => by
    by_cases h1 : m < 128
    · rw [numF, if_pos h1, numF, if_pos h1]
    · rw [numF, if_neg h1]
      conv => rhs; rw [numF, if_neg h1]
      have hk : 0 < k := Nat.pos_of_ne_zero fun e => by subst e; simp at h; omega
      rw [Q1Q k (m / 128) (by rw [Nat.pow_succ] at h; omega) hk]
theorem Q38 {n : Nat} (h : n < 18446744073709551616) (h1 : ¬ n < 128) : numL n = UInt8.ofNat (n % 128 + 128) :: numL (n / 128) := by
  unfold numL
  rw [numF, if_neg h1, Q1Q 9 (n / 128) (by omega) (by decide)]
section
variable {w w' : World} {a : Option Addr} {c : Nat} {hs : List Hd}
theorem Q5y (h : Hd) : Calls Try.prog 69 #[hdV h] w (GivesV (.bool (rhead h)) fun w' => Ext no w w') := by
  refine (rRH5.ok _ _ _ (R := fun v w' => v = .bool (rhead h) ∧ Ext no w w') ?_).mono fun e w' ⟨v, he, hv, hw⟩ => ⟨by rw [he, hv], hw⟩
  unfold rRH5.M
  refine Q02 fun w4 h4 => ?_
  have hb : Blk w4 w.heap.size 66 (hdC h) := by subst h4; exact Blk.new _ _ _
  have hx : Ext no w w4 := by subst h4; exact (Ext.refl _ _).alloc _
  refine ⟨_, hb.cella (i := 0) rfl, ?_⟩
  unfold rhead
  by_cases c1 : h.1 ≥ 0
  · rw [decide_eq_true c1, cond_true, Bool.true_and]
    refine ⟨_, hb.cella (i := 0) rfl, ?_⟩
    by_cases c2 : h.1 < 8
    · rw [decide_eq_true c2, cond_true, Bool.true_and]
      refine ⟨_, hb.cella (i := 1) rfl, ?_⟩
      by_cases c3 : h.2.1 > 0
      · rw [decide_eq_true c3, decide_eq_true (by omega : h.2.1 ≥ 1), cond_true, Bool.true_and]
        refine ⟨_, hb.cella (i := 1) rfl, ?_⟩
        by_cases c4 : h.2.1 ≤ 200
        · rw [decide_eq_true c4, cond_true, Bool.true_and]
          exact ⟨_, hb.cella (i := 2) rfl, rfl, hx⟩
        · rw [decide_eq_false c4]; exact ⟨rfl, hx⟩
      · rw [decide_eq_false c3, decide_eq_false (by omega : ¬ h.2.1 ≥ 1)]; exact ⟨rfl, hx⟩
    · rw [decide_eq_false c2]; exact ⟨rfl, hx⟩
  · rw [decide_eq_false c1]; exact ⟨rfl, hx⟩
theorem Q1N (hr : RowAt w a (hsC hs)) (hl : hs.length < 1000000) : Calls Try.prog 51 #[.slice a hs.length c] w (GivesV (.bool (rightV hs)) fun w' => Ext no w w') := by
  refine (rRight5.ok _ _ _ (R := fun v w' => v = .bool (rightV hs) ∧ Ext no w w') ?_).mono fun e w' ⟨v, he, hv, hw⟩ => ⟨by rw [he, hv], hw⟩
  unfold rRight5.M
  refine ⟨fun k vs w1 => ∃ t : Nat, vs = [.int .i64 t] ∧ k + t = hs.length ∧ rightF (prevOf hs t) (hs.drop t) = rightV hs ∧ Ext no w w1, hs.length, ⟨0, rfl, rfl, rfl, Ext.refl _ _⟩, ?_⟩
  rintro k w1 i ⟨t, hi, hk, hf, hx⟩
  simp only [List.cons.injEq, Value.int.injEq, true_and, and_true] at hi
  subst hi
  cases k with
  | zero =>
    obtain rfl : t = hs.length := by omega
    rw [show decide ((hs.length : Int) < (hs.length : Int)) = false by simp, cond_false]
    rw [List.drop_length] at hf
    exact ⟨by rw [← hf]; cases prevOf hs hs.length <;> rfl, hx⟩
  | succ k =>
    have ht : t < hs.length := by omega
    rw [show decide ((t : Int) < (hs.length : Int)) = true by simp; omega, cond_true]
    refine Q02 fun w6 h6 => ?_
    have x6 : Ext no w w6 := hx.trans (by subst h6; exact (Ext.refl _ _).drew)
    have hr1 := hr.no x6
    obtain ⟨ad, rfl⟩ := hr1.addr (hsC_ne (by intro e; subst e; simp at ht))
    have hgi : hs[t]? = some hs[t] := List.getElem?_eq_getElem ht
    refine ⟨by omega, by omega, _, _, _, by rw [Int.toNat_natCast]; exact hs_at hr1 hgi, ?_⟩
    refine (Q5y hs[t]).mono fun e w20 ⟨he, x20'⟩ => ⟨_, he, ?_⟩
    have x20 := x6.trans x20'
    have hd : hs.drop t = hs[t] :: hs.drop (t + 1) := List.drop_eq_getElem_cons ht
    rw [hd] at hf
    simp only [rightF] at hf
    by_cases c1 : rhead hs[t] = true
    · rw [c1, Bool.not_true, cond_false]
      rw [c1, Bool.true_and] at hf
      have hw1 : IntKind.i64.wrap ((t : Int) + 1) = ((t + 1 : Nat) : Int) := by rw [w64 (by omega) (by omega)]; rfl
      cases t with
      | zero =>
        rw [show decide (((0 : Nat) : Int) > 0) = false from rfl, cond_false]
        exact ⟨k, by omega, 1, by rw [hw1], by omega, by rw [← hf]; simp [prevOf, ht], x20⟩
      | succ t =>
        rw [show decide (((t + 1 : Nat) : Int) > 0) = true by simp <;> omega, cond_true]
        have htl : t < hs.length := by omega
        have hgp : hs[t]? = some hs[t] := List.getElem?_eq_getElem htl
        have hw2 : IntKind.i64.wrap (((t + 1 : Nat) : Int) - 1) = (t : Int) := by rw [w64 (by omega) (by omega)] <;> omega
        rw [hw2]
        refine ⟨by omega, by omega, _, by rw [Int.toNat_natCast]; exact hs_cell (hr.no x20) hgp (j := 0) rfl, by omega, by omega, _, by rw [Int.toNat_natCast]; exact hs_cell (hr.no x20) hgi (j := 0) rfl, ?_⟩
        simp only [prevOf, hgp, Option.map_some] at hf
        by_cases c2 : hs[t].1 ≥ hs[t + 1].1
        · rw [decide_eq_true c2, cond_true]
          rw [decide_eq_false (by omega), Bool.false_and] at hf
          exact ⟨by rw [← hf], x20⟩
        · rw [decide_eq_false c2, cond_false]
          rw [decide_eq_true (by omega), Bool.true_and] at hf
          exact ⟨k, by omega, t + 2, by rw [hw1], by omega, by rw [← hf]; simp [prevOf, ht], x20⟩
    · have c1' : rhead hs[t] = false := by simpa using c1
      rw [c1', Bool.not_false, cond_true]
      rw [c1', Bool.false_and, Bool.false_and] at hf
      exact ⟨by rw [← hf], x20⟩
theorem rNum_spec : ∀ (n : Nat) (w : World), n < 18446744073709551616 → Calls Try.prog 39 #[.int .u64 n] w (fun e w' => ∃ a' c', e = .returned (.slice a' (numL n).length c') ∧ OwnB w.heap.size w' a' c' (numL n) ∧ Ext no w w') := by
  intro n
  induction n using Nat.strongRecOn with
  | _ n ih =>
    intro w hn
    refine (rNum.ok _ (R := fun v w' => ∃ a' c', v = (.slice a' (numL n).length c') ∧ OwnB w.heap.size w' a' c' (numL n) ∧ Ext no w w') ?_).mono fun e w' ⟨v, he, a', c', hv, hw⟩ => ⟨a', c', by rw [he, hv], hw⟩
    unfold rNum.M
    have one : ∀ (w2 : World) (x : UInt8), w2 = w.alloc (.cells #[.int .u8 (x.toNat : Int)] 5) → OwnB w.heap.size w2 (some (blk w.heap.size)) 1 [x] ∧ Ext no w w2 := fun w2 x h2 => by
      have hb : Blk w2 w.heap.size 5 (bytesV [x]) := by subst h2; exact Blk.new _ _ _
      exact ⟨⟨Q1O hb rfl (by simp [maxLen]), fun ad ha => by cases ha; exact ⟨Nat.le_refl _, hb.lt⟩⟩, by subst h2; exact (Ext.refl _ _).alloc _⟩
    by_cases h1 : n < 128
    · rw [show decide ((n : Int) < 128) = true by simp; omega, cond_true]
      have hv : IntKind.u8.wrap (n : Int) = ((UInt8.ofNat n).toNat : Int) := by rw [wu8 (by omega) (by omega), ofNat_lt (by omega)]
      have hL : numL n = [UInt8.ofNat n] := by unfold numL; rw [numF, if_pos h1]
      rw [hv, hL]
      refine Q02 fun w2 h2 => ?_
      obtain ⟨q1, q2⟩ := one w2 _ h2
      exact ⟨_, 1, rfl, q1, q2⟩
    · rw [show decide ((n : Int) < 128) = false by simp; omega, cond_false]
      have hm : Int.tmod (n : Int) 128 = ((n % 128 : Nat) : Int) := by rw [Int.tmod_eq_emod_of_nonneg (by omega)]; omega
      have hd : Int.tdiv (n : Int) 128 = ((n / 128 : Nat) : Int) := by rw [Int.tdiv_eq_ediv_of_nonneg (by omega)]; omega
      have hv : IntKind.u8.wrap ((IntKind.u8.wrap (Int.tmod (n : Int) 128)) + 128) = ((UInt8.ofNat (n % 128 + 128)).toNat : Int) := by
        rw [hm, wu8 (n := ((n % 128 : Nat) : Int)) (by omega) (by omega), wu8 (by omega) (by omega), ofNat_lt (by omega)]; omega
      rw [hv, hd, wu64 (by omega) (by omega), Q38 hn h1]
      refine ⟨by decide, Q02 fun w3 h3 => ⟨by decide, ?_⟩⟩
      obtain ⟨q1, q2⟩ := one w3 _ h3
      refine (ih (n / 128) (by omega) w3 (by omega)).mono fun e w6 ⟨a6, c6, he, ho6, x6⟩ => ⟨a6, _, c6, he, ?_⟩
      obtain ⟨a', c', w8, hr, ho8, x8⟩ := (W.OwnB.no q1 x6).append (t := 25) (ty := 25) Try.underlying25 (Nat.le_trans q2.size x6.size) (xc := c6) (W.OwnB.row ho6) (by have := numL_le (n / 128); simp; omega)
      exact ⟨a', _, c', w8, hr, a', c', rfl, ho8, (q2.trans x6).then x8 fun b hb => .inr hb⟩

theorem Q3Q (hr : RowAt w a (hsC hs)) (hl : hs.length ≤ 1000) (hn : rightV hs = true → ∀ h ∈ hs, natH h) :
    Calls Try.prog 40 #[.slice a hs.length c] w (fun e w' => Ext no w w' ∧ ((rightV hs = false ∧ e = .returned (.tuple #[.slice none 0 0, .int .i64 1])) ∨ (rightV hs = true ∧ ∃ a' c', e = .returned (.tuple #[.slice a' (vecL hs).length c', .int .i64 0]) ∧ OwnB w.heap.size w' a' c' (vecL hs)))) := by
  refine (rBytes5.ok _ _ _ (R := fun v w' => Ext no w w' ∧ ((rightV hs = false ∧ v = .tuple #[.slice none 0 0, .int .i64 1]) ∨ (rightV hs = true ∧ ∃ a' c', v = .tuple #[.slice a' (vecL hs).length c', .int .i64 0] ∧ OwnB w.heap.size w' a' c' (vecL hs)))) ?_).mono fun e w' ⟨v, he, hx, hv⟩ => ⟨hx, hv.imp (fun ⟨h1, h2⟩ => ⟨h1, by rw [he, h2]⟩) (fun ⟨h1, a', c', h2, h3⟩ => ⟨h1, a', c', by rw [he, h2], h3⟩)⟩
  unfold rBytes5.M
  refine (Q1N hr (by omega)).mono fun e w4 ⟨he, x4⟩ => ⟨_, he, ?_⟩
  by_cases hright : rightV hs = true
  · rw [hright, Bool.not_true, cond_false]
    have hnat := hn hright
    rw [wu64 (n := (hs.length : Int)) (by omega) (by omega)]
    refine (rNum_spec hs.length w4 (by omega)).mono fun e w7 ⟨a7, c7, he, ho7, x7'⟩ => ⟨a7, _, c7, he, ?_⟩
    have x7 := x4.trans x7'
    refine ⟨fun k vs w1 => ∃ (t : Nat) (a1 : Option Addr) (c1 : Nat), vs = [.slice a1 (numL hs.length ++ (hs.take t).flatMap hdL).length c1, .int .i64 t] ∧ k + t = hs.length ∧ OwnB w.heap.size w1 a1 c1 (numL hs.length ++ (hs.take t).flatMap hdL) ∧ Ext no w w1, hs.length,
      ⟨0, a7, c7, by simp, rfl, by simpa using OwnB.mono ho7 x4.size, x7⟩, ?_⟩
    rintro k w12 b0 n0 c0 i ⟨t, a1, c1, hvs, hk, ho, hx⟩
    simp only [List.cons.injEq, Value.int.injEq, Value.slice.injEq, true_and, and_true] at hvs
    obtain ⟨⟨rfl, rfl, rfl⟩, rfl⟩ := hvs
    cases k with
    | zero =>
      obtain rfl : t = hs.length := by omega
      rw [show decide ((hs.length : Int) < (hs.length : Int)) = false by simp, cond_false]
      rw [List.take_length] at ho ⊢
      exact ⟨hx, .inr ⟨rfl, _, _, rfl, ho⟩⟩
    | succ k =>
      have ht : t < hs.length := by omega
      rw [show decide ((t : Int) < (hs.length : Int)) = true by simp; omega, cond_true]
      have hr1 := hr.no hx
      obtain ⟨ad, rfl⟩ := hr1.addr (hsC_ne (by intro e; subst e; simp at ht))
      have hgi : hs[t]? = some hs[t] := List.getElem?_eq_getElem ht
      obtain ⟨m1, m2, m3, m4, m5, m6⟩ := hnat hs[t] (List.getElem_mem ht)
      have hlen : (numL hs.length ++ (hs.take t).flatMap hdL).length ≤ 10 + 30 * 1000 := by
        have h1 := numL_le hs.length
        have h2 := hdsL_le (hs.take t)
        rw [List.length_take] at h2
        rw [List.length_append]; omega
      have n1 := numL_le hs[t].1.toNat; have n2 := numL_le hs[t].2.1.toNat; have n3 := numL_le hs[t].2.2.toNat
      -- one number more
      have step : ∀ (w1 : World) (n : Nat) (l : List UInt8) (b1 : Option Addr) (c1 : Nat), n < 18446744073709551616 → l.length ≤ 40000 → OwnB w.heap.size w1 b1 c1 l → Ext no w w1 → ∀ (x : Int), x = (n : Int) → ∀ (K : Option Addr → Nat → Nat → World → Prop),
          (∀ a2 c2 w2, OwnB w.heap.size w2 a2 c2 (l ++ numL n) → Ext no w w2 → K a2 (l ++ numL n).length c2 w2) →
          Calls Try.prog 39 #[.int .u64 x] w1 fun ee ww => ∃ (na : Option Addr) (nn nc : Nat), ee = .returned (.slice na nn nc) ∧ ∃ (ra : Option Addr) (rn rc : Nat) (w3 : World), (Builtin.append_ #[25, 25] 25 #[.slice b1 l.length c1, .slice na nn nc]).run Try.prog ww = .ok (.slice ra rn rc) w3 ∧ K ra rn rc w3 := fun w1 n l b1 c1 hn64 hll ho1 hx1 x hxn K hK => by
        subst hxn
        refine (rNum_spec n w1 hn64).mono fun e w2 ⟨a2, c2, he, ho2, x2⟩ => ⟨a2, _, c2, he, ?_⟩
        have := numL_le n
        obtain ⟨a', c', w3, hr3, ho3, x3⟩ := (W.OwnB.no ho1 x2).append (t := 25) (ty := 25) Try.underlying25 (Nat.le_trans hx1.size x2.size) (xc := c2) (W.OwnB.row ho2) (by omega)
        exact ⟨a', _, c', w3, hr3, hK a' c' w3 ho3 ((hx1.trans x2).then x3 fun b hb => .inr hb)⟩
      refine ⟨by omega, by omega, _, by rw [Int.toNat_natCast]; exact hs_cell hr1 hgi (j := 0) rfl, ?_⟩
      rw [wu64 m1 m2]
      generalize hbase : numL hs.length ++ (hs.take t).flatMap hdL = base at *
      refine step w12 hs[t].1.toNat base b0 c0 (by omega) (by omega) ho hx hs[t].1 (by omega) _ fun a2 c2 w2 ho2 x2 => ?_
      refine ⟨by omega, by omega, _, by rw [Int.toNat_natCast]; exact hs_cell (hr.no x2) hgi (j := 1) rfl, ?_⟩
      rw [wu64 m3 m4]
      refine step w2 hs[t].2.1.toNat _ a2 c2 (by omega) (by rw [List.length_append]; omega) ho2 x2 hs[t].2.1 (by omega) _ fun a3 c3 w3 ho3 x3 => ?_
      refine ⟨by omega, by omega, _, by rw [Int.toNat_natCast]; exact hs_cell (hr.no x3) hgi (j := 2) rfl, ?_⟩
      refine step w3 hs[t].2.2.toNat _ a3 c3 (by omega) (by rw [List.length_append, List.length_append]; omega) ho3 x3 hs[t].2.2 (by omega) _ fun a4 c4 w4' ho4 x4' => ?_
      have hnx : base ++ numL hs[t].1.toNat ++ numL hs[t].2.1.toNat ++ numL hs[t].2.2.toNat = numL hs.length ++ (hs.take (t + 1)).flatMap hdL := by
        rw [← hbase, List.take_add_one (l := hs) (i := t), hgi, Option.toList_some, List.flatMap_append]
        show _ = numL hs.length ++ ((hs.take t).flatMap hdL ++ (hdL hs[t] ++ []))
        simp only [hdL, List.append_nil, List.append_assoc]
      rw [hnx] at ho4 ⊢
      exact ⟨k, by omega, t + 1, _, _, by rw [w64 (by omega) (by omega)]; rfl, by omega, ho4, x4'⟩
  · rw [show rightV hs = false by simpa using hright, Bool.not_false, cond_true]
    exact ⟨x4, .inl ⟨rfl, rfl⟩⟩
end
end Go.Proofs.Ytoempemllkebkaa