/- Forkcheck: what proves. -/
import Derived.Test.YtebghegecofmhaaZB
import Derived.Shelf.SlIterI.Nil
import Derived.Shelf.SortM.Plain
import Derived.Shelf.SortM.SortNone
import Derived.Ground.GgzProg
import Derived.Ground.SlgmProg
set_option linter.unusedVariables false
set_option linter.unusedSimpArgs false
set_option maxRecDepth 20000
set_option maxHeartbeats 2000000
namespace Go.Proofs.Ytebghegecofmhaa
open Go Go.Mx Go.Proofs
open W (OwnB GivesW numR countR doneR zig unzig intR)
def Q02.M (ak au b4 b5 b6 av : Int) (an : Option Addr) (b0 ax : Nat) (b8 am ai ar b3 b2 ah : Int) (aj : Option Addr) (ag al : Nat) (b1 : Int) (R : RW) (w : World) : Prop :=
 thenW (w.alloc (.cells #[.int .i64 ak, .int .i64 au, .int .u64 b4, .int .i64 b5, .int .i64 b6, .int .i64 av, .slice an b0 ax, .int .u64 b8, .int .i64 am, .int .i64 ai, .int .u64 ar, .int .i64 b3, .int .i64 b2, .int .i64 ah, .slice aj ag al, .int .u64 b1] 38)) fun b9 =>
 ∃ (a0 ab ae ay aw a7 : Int) (a6 : Option Addr) (a9 a4 : Nat) (az : Int), cellsAt b9 ((blk w.heap.size).add 0) [.int .i64 a0, .int .i64 ab, .int .u64 ae, .int .i64 ay, .int .i64 aw, .int .i64 a7, .slice a6 a9 a4, .int .u64 az] 0 ∧
 Calls Try.prog 32 #[.agg #[.int .i64 a0, .int .i64 ab, .int .u64 ae, .int .i64 ay, .int .i64 aw, .int .i64 a7, .slice a6 a9 a4, .int .u64 az]] b9 fun bb b7 => ∃ (af : Bool), bb = .returned (.bool af) ∧
 bif af then (
 ∃ (a1 a3 ad ap ao a5 : Int) (aa : Option Addr) (a2 a8 : Nat) (aq : Int), cellsAt b7 ((blk w.heap.size).add 8) [.int .i64 a1, .int .i64 a3, .int .u64 ad, .int .i64 ap, .int .i64 ao, .int .i64 a5, .slice aa a2 a8, .int .u64 aq] 0 ∧
 Calls Try.prog 32 #[.agg #[.int .i64 a1, .int .i64 a3, .int .u64 ad, .int .i64 ap, .int .i64 ao, .int .i64 a5, .slice aa a2 a8, .int .u64 aq]] b7 fun bc ba => ∃ (ac : Bool), bc = .returned (.bool ac) ∧
 bif ac then (
 R (.int .i64 0) ba) else (
 R (.int .i64 1) ba)) else (
 R (.int .i64 1) b7)

theorem Q02.ok (a4 a9 ag ah ai aa : Int) (a7 : Option Addr) (ac ab : Nat) (aj a6 a2 a8 af ae a1 : Int) (a3 : Option Addr) (a0 a5 : Nat) (ad : Int) {R : RW} {w : World} (h : Q02.M a4 a9 ag ah ai aa a7 ac ab aj a6 a2 a8 af ae a1 a3 a0 a5 ad R w) : Calls Try.prog 23 #[.agg #[.int .i64 a4, .int .i64 a9, .int .u64 ag, .int .i64 ah, .int .i64 ai, .int .i64 aa, .slice a7 ac ab, .int .u64 aj, .int .i64 a6, .int .i64 a2, .int .u64 a8, .int .i64 af, .int .i64 ae, .int .i64 a1, .slice a3 a0 a5, .int .u64 ad]] w fun e w' => ∃ v, e = .returned v ∧ R v w' :=
  Q0m follows (H := []) (args := [.agg #[.int .i64 a4, .int .i64 a9, .int .u64 ag, .int .i64 ah, .int .i64 ai, .int .i64 aa, .slice a7 ac ab, .int .u64 aj, .int .i64 a6, .int .i64 a2, .int .u64 a8, .int .i64 af, .int .i64 ae, .int .i64 a1, .slice a3 a0 a5, .int .u64 ad]]) (cast (by kernel_rfl) h)

def Q02.N (a4 a9 ag ah ai aa : Int) (a7 : Option Addr) (ac ab : Nat) (ak a6 a2 a8 af ae a1 : Int) (a3 : Option Addr) (a0 a5 : Nat) (ad : Int) (R : RW) (w : World) : Prop :=
 ((Q08.F a4 a9 ag ah ai aa a7 ac ab ak) = true →
 ((Q08.F a6 a2 a8 af ae a1 a3 a0 a5 ad) = true →
 ∀ (aj : World), Ext no w aj →
 R (.int .i64 0) aj) ∧
 ((Q08.F a6 a2 a8 af ae a1 a3 a0 a5 ad) = false →
 ∀ (aj : World), Ext no w aj →
 R (.int .i64 1) aj)) ∧
 ((Q08.F a4 a9 ag ah ai aa a7 ac ab ak) = false →
 ∀ (al : World), Ext no w al →
 R (.int .i64 1) al)

theorem Q02.up (a4 a9 ag ah ai aa : Int) (a7 : Option Addr) (ac ab : Nat) (aj a6 a2 a8 af ae a1 : Int) (a3 : Option Addr) (a0 a5 : Nat) (ad : Int) {R : RW} {w : World} (h : Q02.N a4 a9 ag ah ai aa a7 ac ab aj a6 a2 a8 af ae a1 a3 a0 a5 ad R w) : Q02.M a4 a9 ag ah ai aa a7 ac ab aj a6 a2 a8 af ae a1 a3 a0 a5 ad R w := by
  unfold Q02.M
  unfold Q02.N at h
  refine Q01 fun ar aq => ?_
  have ak := Blk.of_new aq
  have au := ((Ext.refl no w)).size
  have ap := (Ext.refl no w).x_alloc aq
  refine ⟨a4, a9, ag, ah, ai, aa, a7, ac, ab, aj, ⟨ak.celli 0 rfl rfl, ak.celli 1 rfl rfl, ak.celli 2 rfl rfl, ak.celli 3 rfl rfl, ak.celli 4 rfl rfl, ak.celli 5 rfl rfl, ak.celli 6 rfl rfl, ak.celli 7 rfl rfl, trivial⟩, ?_⟩
  refine (Q08.pure a4 a9 ag ah ai aa a7 ac ab aj).mono fun ee ww18 ⟨he, hxx⟩ => ⟨(Q08.F a4 a9 ag ah ai aa a7 ac ab aj), he, ?_⟩
  have al := ap.trans hxx
  have ak := ak.ext hxx id
  refine bif_fo (fun ao => ?_) (fun ao => ?_)
  ·have h := h.2 ao
   have h := h ww18 al
   exact h
  have h := h.1 ao
  refine ⟨a6, a2, a8, af, ae, a1, a3, a0, a5, ad, ⟨ak.celli 8 rfl rfl, ak.celli 9 rfl rfl, ak.celli 10 rfl rfl, ak.celli 11 rfl rfl, ak.celli 12 rfl rfl, ak.celli 13 rfl rfl, ak.celli 14 rfl rfl, ak.celli 15 rfl rfl, trivial⟩, ?_⟩
  refine (Q08.pure a6 a2 a8 af ae a1 a3 a0 a5 ad).mono fun ee ww20 ⟨he, hxx⟩ => ⟨(Q08.F a6 a2 a8 af ae a1 a3 a0 a5 ad), he, ?_⟩
  have am := al.trans hxx
  refine bif_of (fun an => ?_) (fun an => ?_)
  ·have h := h.1 an
   have h := h ww20 am
   exact h
  have h := h.2 an
  have h := h ww20 am
  exact h

theorem Q02.go (a4 a9 ag ah ai aa : Int) (a7 : Option Addr) (ac ab : Nat) (aj a6 a2 a8 af ae a1 : Int) (a3 : Option Addr) (a0 a5 : Nat) (ad : Int) {R : RW} {w : World} (h : Q02.N a4 a9 ag ah ai aa a7 ac ab aj a6 a2 a8 af ae a1 a3 a0 a5 ad R w) : Calls Try.prog 23 #[.agg #[.int .i64 a4, .int .i64 a9, .int .u64 ag, .int .i64 ah, .int .i64 ai, .int .i64 aa, .slice a7 ac ab, .int .u64 aj, .int .i64 a6, .int .i64 a2, .int .u64 a8, .int .i64 af, .int .i64 ae, .int .i64 a1, .slice a3 a0 a5, .int .u64 ad]] w fun e w' => ∃ v, e = .returned v ∧ R v w' := Q02.ok a4 a9 ag ah ai aa a7 ac ab aj a6 a2 a8 af ae a1 a3 a0 a5 ad (Q02.up a4 a9 ag ah ai aa a7 ac ab aj a6 a2 a8 af ae a1 a3 a0 a5 ad h)
theorem Q02.run (a4 a9 ag ah ai aa : Int) (a7 : Option Addr) (ac ab : Nat) (aj a6 a2 a8 af ae a1 : Int) (a3 : Option Addr) (a0 a5 : Nat) (ad : Int) {V : Value} {Q : World → Prop} {w : World} (h : Q02.N a4 a9 ag ah ai aa a7 ac ab aj a6 a2 a8 af ae a1 a3 a0 a5 ad (fun v w' => v = V ∧ Q w') w) : Calls Try.prog 23 #[.agg #[.int .i64 a4, .int .i64 a9, .int .u64 ag, .int .i64 ah, .int .i64 ai, .int .i64 aa, .slice a7 ac ab, .int .u64 aj, .int .i64 a6, .int .i64 a2, .int .u64 a8, .int .i64 af, .int .i64 ae, .int .i64 a1, .slice a3 a0 a5, .int .u64 ad]] w (Ret V Q) := (Q02.go a4 a9 ag ah ai aa a7 ac ab aj a6 a2 a8 af ae a1 a3 a0 a5 ad h).mono fun e w' ⟨v, he, hv, hq⟩ => ⟨by rw [he, hv], hq⟩

def Q02.F (a4 a9 ag ah ai aa : Int) (a7 : Option Addr) (ac ab : Nat) (aj a6 a2 a8 af ae a1 : Int) (a3 : Option Addr) (a0 a5 : Nat) (ad : Int) : Int :=
  if (Q08.F a4 a9 ag ah ai aa a7 ac ab aj) = true then
    if (Q08.F a6 a2 a8 af ae a1 a3 a0 a5 ad) = true then
      0
    else
      1
  else
    1
theorem Q02.pure (a4 a9 ag ah ai aa : Int) (a7 : Option Addr) (ac ab : Nat) (aj a6 a2 a8 af ae a1 : Int) (a3 : Option Addr) (a0 a5 : Nat) (ad : Int) {w : World} : Calls Try.prog 23 #[.agg #[.int .i64 a4, .int .i64 a9, .int .u64 ag, .int .i64 ah, .int .i64 ai, .int .i64 aa, .slice a7 ac ab, .int .u64 aj, .int .i64 a6, .int .i64 a2, .int .u64 a8, .int .i64 af, .int .i64 ae, .int .i64 a1, .slice a3 a0 a5, .int .u64 ad]] w (Ret (.int .i64 (Q02.F a4 a9 ag ah ai aa a7 ac ab aj a6 a2 a8 af ae a1 a3 a0 a5 ad)) fun w' => Ext no w w') := by
  refine Q02.run a4 a9 ag ah ai aa a7 ac ab aj a6 a2 a8 af ae a1 a3 a0 a5 ad ?_
  unfold Q02.N
  refine ⟨fun c0 => ?_, fun c0 => ?_⟩
  ·refine ⟨fun c1 => ?_, fun c1 => ?_⟩
   ·intro w' hx; exact ⟨by unfold Q02.F; rw [if_pos c0, if_pos c1], hx⟩
   ·intro w' hx; exact ⟨by unfold Q02.F; rw [if_pos c0, if_neg (by rw [c1]; decide)], hx⟩
  ·intro w' hx; exact ⟨by unfold Q02.F; rw [if_neg (by rw [c0]; decide)], hx⟩

def Q00.M (a6 ab aj ak al ac : Int) (a9 : Option Addr) (ae ad : Nat) (am a8 a4 aa ai ah a3 : Int) (a5 : Option Addr) (a2 a7 : Nat) (af : Int) (R : RW) (w : World) : Prop :=
 thenW (w.alloc (.cells #[.int .i64 a6, .int .i64 ab, .int .u64 aj, .int .i64 ak, .int .i64 al, .int .i64 ac, .slice a9 ae ad, .int .u64 am, .int .i64 a8, .int .i64 a4, .int .u64 aa, .int .i64 ai, .int .i64 ah, .int .i64 a3, .slice a5 a2 a7, .int .u64 af] 38)) fun ag =>
 ∃ (a0 : Int), ag.cell? (((blk w.heap.size).add 0).add 0) = some (.int .i64 a0) ∧
 ∃ (a1 : Int), ag.cell? (((blk w.heap.size).add 8).add 0) = some (.int .i64 a1) ∧
 bif a0 == a1 then (
 R (.int .i64 0) ag) else (
 R (.int .i64 20) ag)

theorem Q00.ok (a4 a9 ag ah ai aa : Int) (a7 : Option Addr) (ac ab : Nat) (aj a6 a2 a8 af ae a1 : Int) (a3 : Option Addr) (a0 a5 : Nat) (ad : Int) {R : RW} {w : World} (h : Q00.M a4 a9 ag ah ai aa a7 ac ab aj a6 a2 a8 af ae a1 a3 a0 a5 ad R w) : Calls Try.prog 24 #[.agg #[.int .i64 a4, .int .i64 a9, .int .u64 ag, .int .i64 ah, .int .i64 ai, .int .i64 aa, .slice a7 ac ab, .int .u64 aj, .int .i64 a6, .int .i64 a2, .int .u64 a8, .int .i64 af, .int .i64 ae, .int .i64 a1, .slice a3 a0 a5, .int .u64 ad]] w fun e w' => ∃ v, e = .returned v ∧ R v w' :=
  Q0m follows (H := []) (args := [.agg #[.int .i64 a4, .int .i64 a9, .int .u64 ag, .int .i64 ah, .int .i64 ai, .int .i64 aa, .slice a7 ac ab, .int .u64 aj, .int .i64 a6, .int .i64 a2, .int .u64 a8, .int .i64 af, .int .i64 ae, .int .i64 a1, .slice a3 a0 a5, .int .u64 ad]]) (cast (by kernel_rfl) h)

def Q00.N (a0 aa ah ai aj ab : Int) (a8 : Option Addr) (ad ac : Nat) (ak a1 a5 a9 ag af a4 : Int) (a6 : Option Addr) (a3 a7 : Nat) (ae : Int) (R : RW) (w : World) : Prop :=
 (a0 = a1 →
 ∀ (a2 : World), Ext no w a2 →
 R (.int .i64 0) a2) ∧
 (a0 ≠ a1 →
 ∀ (a2 : World), Ext no w a2 →
 R (.int .i64 20) a2)

theorem Q00.up (a0 a9 ag ah ai aa : Int) (a7 : Option Addr) (ac ab : Nat) (aj a1 a4 a8 af ae a3 : Int) (a5 : Option Addr) (a2 a6 : Nat) (ad : Int) {R : RW} {w : World} (h : Q00.N a0 a9 ag ah ai aa a7 ac ab aj a1 a4 a8 af ae a3 a5 a2 a6 ad R w) : Q00.M a0 a9 ag ah ai aa a7 ac ab aj a1 a4 a8 af ae a3 a5 a2 a6 ad R w := by
  unfold Q00.M
  unfold Q00.N at h
  refine Q01 fun ak an => ?_
  have ao := Blk.of_new an
  have ap := ((Ext.refl no w)).size
  have al := (Ext.refl no w).x_alloc an
  refine ⟨a0, ao.celli 0 rfl rfl, ?_⟩
  refine ⟨a1, ao.celli 8 rfl rfl, ?_⟩
  refine bif_of (fun am => ?_) (fun am => ?_)
  ·have h := h.1 (beq_t am)
   have h := h ak al
   exact h
  have h := h.2 (beq_f am)
  have h := h ak al
  exact h

theorem Q00.go (a4 a9 ag ah ai aa : Int) (a7 : Option Addr) (ac ab : Nat) (aj a6 a2 a8 af ae a1 : Int) (a3 : Option Addr) (a0 a5 : Nat) (ad : Int) {R : RW} {w : World} (h : Q00.N a4 a9 ag ah ai aa a7 ac ab aj a6 a2 a8 af ae a1 a3 a0 a5 ad R w) : Calls Try.prog 24 #[.agg #[.int .i64 a4, .int .i64 a9, .int .u64 ag, .int .i64 ah, .int .i64 ai, .int .i64 aa, .slice a7 ac ab, .int .u64 aj, .int .i64 a6, .int .i64 a2, .int .u64 a8, .int .i64 af, .int .i64 ae, .int .i64 a1, .slice a3 a0 a5, .int .u64 ad]] w fun e w' => ∃ v, e = .returned v ∧ R v w' := Q00.ok a4 a9 ag ah ai aa a7 ac ab aj a6 a2 a8 af ae a1 a3 a0 a5 ad (Q00.up a4 a9 ag ah ai aa a7 ac ab aj a6 a2 a8 af ae a1 a3 a0 a5 ad h)
theorem Q00.run (a4 a9 ag ah ai aa : Int) (a7 : Option Addr) (ac ab : Nat) (aj a6 a2 a8 af ae a1 : Int) (a3 : Option Addr) (a0 a5 : Nat) (ad : Int) {V : Value} {Q : World → Prop} {w : World} (h : Q00.N a4 a9 ag ah ai aa a7 ac ab aj a6 a2 a8 af ae a1 a3 a0 a5 ad (fun v w' => v = V ∧ Q w') w) : Calls Try.prog 24 #[.agg #[.int .i64 a4, .int .i64 a9, .int .u64 ag, .int .i64 ah, .int .i64 ai, .int .i64 aa, .slice a7 ac ab, .int .u64 aj, .int .i64 a6, .int .i64 a2, .int .u64 a8, .int .i64 af, .int .i64 ae, .int .i64 a1, .slice a3 a0 a5, .int .u64 ad]] w (Ret V Q) := (Q00.go a4 a9 ag ah ai aa a7 ac ab aj a6 a2 a8 af ae a1 a3 a0 a5 ad h).mono fun e w' ⟨v, he, hv, hq⟩ => ⟨by rw [he, hv], hq⟩

def Q00.F (a0 a9 ag ah ai aa : Int) (a7 : Option Addr) (ac ab : Nat) (aj a1 a4 a8 af ae a3 : Int) (a5 : Option Addr) (a2 a6 : Nat) (ad : Int) : Int :=
  if a0 = a1 then
    0
  else
    20
theorem Q00.pure (a4 a9 ag ah ai aa : Int) (a7 : Option Addr) (ac ab : Nat) (aj a6 a2 a8 af ae a1 : Int) (a3 : Option Addr) (a0 a5 : Nat) (ad : Int) {w : World} : Calls Try.prog 24 #[.agg #[.int .i64 a4, .int .i64 a9, .int .u64 ag, .int .i64 ah, .int .i64 ai, .int .i64 aa, .slice a7 ac ab, .int .u64 aj, .int .i64 a6, .int .i64 a2, .int .u64 a8, .int .i64 af, .int .i64 ae, .int .i64 a1, .slice a3 a0 a5, .int .u64 ad]] w (Ret (.int .i64 (Q00.F a4 a9 ag ah ai aa a7 ac ab aj a6 a2 a8 af ae a1 a3 a0 a5 ad)) fun w' => Ext no w w') := by
  refine Q00.run a4 a9 ag ah ai aa a7 ac ab aj a6 a2 a8 af ae a1 a3 a0 a5 ad ?_
  unfold Q00.N
  refine ⟨fun c0 => ?_, fun c0 => ?_⟩
  ·intro w' hx; exact ⟨by unfold Q00.F; rw [if_pos c0], hx⟩
  ·intro w' hx; exact ⟨by unfold Q00.F; rw [if_neg c0], hx⟩

def Q03.M (a6 ab aj ak al ac : Int) (a9 : Option Addr) (ae ad : Nat) (am a8 a4 aa ai ah a3 : Int) (a5 : Option Addr) (a2 a7 : Nat) (af : Int) (R : RW) (w : World) : Prop :=
 thenW (w.alloc (.cells #[.int .i64 a6, .int .i64 ab, .int .u64 aj, .int .i64 ak, .int .i64 al, .int .i64 ac, .slice a9 ae ad, .int .u64 am, .int .i64 a8, .int .i64 a4, .int .u64 aa, .int .i64 ai, .int .i64 ah, .int .i64 a3, .slice a5 a2 a7, .int .u64 af] 38)) fun ag =>
 ∃ (a0 : Int), ag.cell? (((blk w.heap.size).add 0).add 1) = some (.int .i64 a0) ∧
 ∃ (a1 : Int), ag.cell? (((blk w.heap.size).add 8).add 1) = some (.int .i64 a1) ∧
 bif a0 == a1 then (
 R (.int .i64 0) ag) else (
 R (.int .i64 2) ag)

theorem Q03.ok (a4 a9 ag ah ai aa : Int) (a7 : Option Addr) (ac ab : Nat) (aj a6 a2 a8 af ae a1 : Int) (a3 : Option Addr) (a0 a5 : Nat) (ad : Int) {R : RW} {w : World} (h : Q03.M a4 a9 ag ah ai aa a7 ac ab aj a6 a2 a8 af ae a1 a3 a0 a5 ad R w) : Calls Try.prog 25 #[.agg #[.int .i64 a4, .int .i64 a9, .int .u64 ag, .int .i64 ah, .int .i64 ai, .int .i64 aa, .slice a7 ac ab, .int .u64 aj, .int .i64 a6, .int .i64 a2, .int .u64 a8, .int .i64 af, .int .i64 ae, .int .i64 a1, .slice a3 a0 a5, .int .u64 ad]] w fun e w' => ∃ v, e = .returned v ∧ R v w' :=
  Q0m follows (H := []) (args := [.agg #[.int .i64 a4, .int .i64 a9, .int .u64 ag, .int .i64 ah, .int .i64 ai, .int .i64 aa, .slice a7 ac ab, .int .u64 aj, .int .i64 a6, .int .i64 a2, .int .u64 a8, .int .i64 af, .int .i64 ae, .int .i64 a1, .slice a3 a0 a5, .int .u64 ad]]) (cast (by kernel_rfl) h)

def Q03.N (a6 a1 ah ai aj ab : Int) (a9 : Option Addr) (ad ac : Nat) (ak a8 a0 aa ag af a4 : Int) (a5 : Option Addr) (a3 a7 : Nat) (ae : Int) (R : RW) (w : World) : Prop :=
 (a1 = a0 →
 ∀ (a2 : World), Ext no w a2 →
 R (.int .i64 0) a2) ∧
 (a1 ≠ a0 →
 ∀ (a2 : World), Ext no w a2 →
 R (.int .i64 2) a2)

theorem Q03.up (a5 a1 ag ah ai aa : Int) (a8 : Option Addr) (ac ab : Nat) (aj a7 a0 a9 af ae a3 : Int) (a4 : Option Addr) (a2 a6 : Nat) (ad : Int) {R : RW} {w : World} (h : Q03.N a5 a1 ag ah ai aa a8 ac ab aj a7 a0 a9 af ae a3 a4 a2 a6 ad R w) : Q03.M a5 a1 ag ah ai aa a8 ac ab aj a7 a0 a9 af ae a3 a4 a2 a6 ad R w := by
  unfold Q03.M
  unfold Q03.N at h
  refine Q01 fun ak an => ?_
  have ao := Blk.of_new an
  have ap := ((Ext.refl no w)).size
  have al := (Ext.refl no w).x_alloc an
  refine ⟨a1, ao.celli 1 rfl rfl, ?_⟩
  refine ⟨a0, ao.celli 9 rfl rfl, ?_⟩
  refine bif_of (fun am => ?_) (fun am => ?_)
  ·have h := h.1 (beq_t am)
   have h := h ak al
   exact h
  have h := h.2 (beq_f am)
  have h := h ak al
  exact h

theorem Q03.go (a4 a9 ag ah ai aa : Int) (a7 : Option Addr) (ac ab : Nat) (aj a6 a2 a8 af ae a1 : Int) (a3 : Option Addr) (a0 a5 : Nat) (ad : Int) {R : RW} {w : World} (h : Q03.N a4 a9 ag ah ai aa a7 ac ab aj a6 a2 a8 af ae a1 a3 a0 a5 ad R w) : Calls Try.prog 25 #[.agg #[.int .i64 a4, .int .i64 a9, .int .u64 ag, .int .i64 ah, .int .i64 ai, .int .i64 aa, .slice a7 ac ab, .int .u64 aj, .int .i64 a6, .int .i64 a2, .int .u64 a8, .int .i64 af, .int .i64 ae, .int .i64 a1, .slice a3 a0 a5, .int .u64 ad]] w fun e w' => ∃ v, e = .returned v ∧ R v w' := Q03.ok a4 a9 ag ah ai aa a7 ac ab aj a6 a2 a8 af ae a1 a3 a0 a5 ad (Q03.up a4 a9 ag ah ai aa a7 ac ab aj a6 a2 a8 af ae a1 a3 a0 a5 ad h)
theorem Q03.run (a4 a9 ag ah ai aa : Int) (a7 : Option Addr) (ac ab : Nat) (aj a6 a2 a8 af ae a1 : Int) (a3 : Option Addr) (a0 a5 : Nat) (ad : Int) {V : Value} {Q : World → Prop} {w : World} (h : Q03.N a4 a9 ag ah ai aa a7 ac ab aj a6 a2 a8 af ae a1 a3 a0 a5 ad (fun v w' => v = V ∧ Q w') w) : Calls Try.prog 25 #[.agg #[.int .i64 a4, .int .i64 a9, .int .u64 ag, .int .i64 ah, .int .i64 ai, .int .i64 aa, .slice a7 ac ab, .int .u64 aj, .int .i64 a6, .int .i64 a2, .int .u64 a8, .int .i64 af, .int .i64 ae, .int .i64 a1, .slice a3 a0 a5, .int .u64 ad]] w (Ret V Q) := (Q03.go a4 a9 ag ah ai aa a7 ac ab aj a6 a2 a8 af ae a1 a3 a0 a5 ad h).mono fun e w' ⟨v, he, hv, hq⟩ => ⟨by rw [he, hv], hq⟩

def Q03.F (a5 a1 ag ah ai aa : Int) (a8 : Option Addr) (ac ab : Nat) (aj a7 a0 a9 af ae a3 : Int) (a4 : Option Addr) (a2 a6 : Nat) (ad : Int) : Int :=
  if a1 = a0 then
    0
  else
    2
theorem Q03.pure (a4 a9 ag ah ai aa : Int) (a7 : Option Addr) (ac ab : Nat) (aj a6 a2 a8 af ae a1 : Int) (a3 : Option Addr) (a0 a5 : Nat) (ad : Int) {w : World} : Calls Try.prog 25 #[.agg #[.int .i64 a4, .int .i64 a9, .int .u64 ag, .int .i64 ah, .int .i64 ai, .int .i64 aa, .slice a7 ac ab, .int .u64 aj, .int .i64 a6, .int .i64 a2, .int .u64 a8, .int .i64 af, .int .i64 ae, .int .i64 a1, .slice a3 a0 a5, .int .u64 ad]] w (Ret (.int .i64 (Q03.F a4 a9 ag ah ai aa a7 ac ab aj a6 a2 a8 af ae a1 a3 a0 a5 ad)) fun w' => Ext no w w') := by
  refine Q03.run a4 a9 ag ah ai aa a7 ac ab aj a6 a2 a8 af ae a1 a3 a0 a5 ad ?_
  unfold Q03.N
  refine ⟨fun c0 => ?_, fun c0 => ?_⟩
  ·intro w' hx; exact ⟨by unfold Q03.F; rw [if_pos c0], hx⟩
  ·intro w' hx; exact ⟨by unfold Q03.F; rw [if_neg c0], hx⟩

def Q0b.M (ai aq b3 b4 b5 ar : Int) (am : Option Addr) (az av : Nat) (b7 ak ag ap b2 b1 af : Int) (ah : Option Addr) (ae aj : Nat) (b0 : Int) (R : RW) (w : World) : Prop :=
 thenW (w.alloc (.cells #[.int .i64 ai, .int .i64 aq, .int .u64 b3, .int .i64 b4, .int .i64 b5, .int .i64 ar, .slice am az av, .int .u64 b7, .int .i64 ak, .int .i64 ag, .int .u64 ap, .int .i64 b2, .int .i64 b1, .int .i64 af, .slice ah ae aj, .int .u64 b0] 38)) fun b6 =>
 ∃ (a1 ab ad aw au a6 : Int) (a5 : Option Addr) (a9 a3 : Nat) (ay : Int), cellsAt b6 ((blk w.heap.size).add 0) [.int .i64 a1, .int .i64 ab, .int .u64 ad, .int .i64 aw, .int .i64 au, .int .i64 a6, .slice a5 a9 a3, .int .u64 ay] 0 ∧
 ∃ (a0 a4 ac al an a8 : Int) (aa : Option Addr) (a2 a7 : Nat) (ax : Int), cellsAt b6 ((blk w.heap.size).add 8) [.int .i64 a0, .int .i64 a4, .int .u64 ac, .int .i64 al, .int .i64 an, .int .i64 a8, .slice aa a2 a7, .int .u64 ax] 0 ∧
 Calls Try.prog 35 #[.agg #[.int .i64 a1, .int .i64 ab, .int .u64 ad, .int .i64 aw, .int .i64 au, .int .i64 a6, .slice a5 a9 a3, .int .u64 ay], .agg #[.int .i64 a0, .int .i64 a4, .int .u64 ac, .int .i64 al, .int .i64 an, .int .i64 a8, .slice aa a2 a7, .int .u64 ax]] b6 fun b9 b8 => ∃ (ao : Bool), b9 = .returned (.bool ao) ∧
 bif ao then (
 R (.int .i64 8) b8) else (
 R (.int .i64 0) b8)

theorem Q0b.ok (a4 a9 ag ah ai aa : Int) (a7 : Option Addr) (ac ab : Nat) (aj a6 a2 a8 af ae a1 : Int) (a3 : Option Addr) (a0 a5 : Nat) (ad : Int) {R : RW} {w : World} (h : Q0b.M a4 a9 ag ah ai aa a7 ac ab aj a6 a2 a8 af ae a1 a3 a0 a5 ad R w) : Calls Try.prog 26 #[.agg #[.int .i64 a4, .int .i64 a9, .int .u64 ag, .int .i64 ah, .int .i64 ai, .int .i64 aa, .slice a7 ac ab, .int .u64 aj, .int .i64 a6, .int .i64 a2, .int .u64 a8, .int .i64 af, .int .i64 ae, .int .i64 a1, .slice a3 a0 a5, .int .u64 ad]] w fun e w' => ∃ v, e = .returned v ∧ R v w' :=
  Q0m follows (H := []) (args := [.agg #[.int .i64 a4, .int .i64 a9, .int .u64 ag, .int .i64 ah, .int .i64 ai, .int .i64 aa, .slice a7 ac ab, .int .u64 aj, .int .i64 a6, .int .i64 a2, .int .u64 a8, .int .i64 af, .int .i64 ae, .int .i64 a1, .slice a3 a0 a5, .int .u64 ad]]) (cast (by kernel_rfl) h)

def Q0b.N (a5 aa ah ai aj ab : Int) (a8 : Option Addr) (ad ac : Nat) (ak a7 a3 a9 ag af a2 : Int) (a4 : Option Addr) (a1 a6 : Nat) (ae : Int) (R : RW) (w : World) : Prop :=
 ∀ (al : World), Ext no w al →
 Calls Try.prog 35 #[.agg #[.int .i64 a5, .int .i64 aa, .int .u64 ah, .int .i64 ai, .int .i64 aj, .int .i64 ab, .slice a8 ad ac, .int .u64 ak], .agg #[.int .i64 a7, .int .i64 a3, .int .u64 a9, .int .i64 ag, .int .i64 af, .int .i64 a2, .slice a4 a1 a6, .int .u64 ae]] al fun an am => ∃ (a0 : Bool), an = .returned (.bool a0) ∧
 (a0 = true →
 R (.int .i64 8) am) ∧
 (a0 = false →
 R (.int .i64 0) am)

theorem Q0b.up (a4 a9 ag ai aj aa : Int) (a7 : Option Addr) (ac ab : Nat) (ak a6 a2 a8 af ae a1 : Int) (a3 : Option Addr) (a0 a5 : Nat) (ad : Int) {R : RW} {w : World} (h : Q0b.N a4 a9 ag ai aj aa a7 ac ab ak a6 a2 a8 af ae a1 a3 a0 a5 ad R w) : Q0b.M a4 a9 ag ai aj aa a7 ac ab ak a6 a2 a8 af ae a1 a3 a0 a5 ad R w := by
  unfold Q0b.M
  unfold Q0b.N at h
  refine Q01 fun am ap => ?_
  have ah := Blk.of_new ap
  have au := ((Ext.refl no w)).size
  have an := (Ext.refl no w).x_alloc ap
  refine ⟨a4, a9, ag, ai, aj, aa, a7, ac, ab, ak, ⟨ah.celli 0 rfl rfl, ah.celli 1 rfl rfl, ah.celli 2 rfl rfl, ah.celli 3 rfl rfl, ah.celli 4 rfl rfl, ah.celli 5 rfl rfl, ah.celli 6 rfl rfl, ah.celli 7 rfl rfl, trivial⟩, ?_⟩
  refine ⟨a6, a2, a8, af, ae, a1, a3, a0, a5, ad, ⟨ah.celli 8 rfl rfl, ah.celli 9 rfl rfl, ah.celli 10 rfl rfl, ah.celli 11 rfl rfl, ah.celli 12 rfl rfl, ah.celli 13 rfl rfl, ah.celli 14 rfl rfl, ah.celli 15 rfl rfl, trivial⟩, ?_⟩
  have h := h am an
  refine h.mono fun ar aq h => ?_
  obtain ⟨al, he, h⟩ := h
  refine ⟨al, he, ?_⟩
  refine bif_of (fun ao => ?_) (fun ao => ?_)
  ·have h := h.1 ao
   exact h
  have h := h.2 ao
  exact h

theorem Q0b.go (a4 a9 ag ah ai aa : Int) (a7 : Option Addr) (ac ab : Nat) (aj a6 a2 a8 af ae a1 : Int) (a3 : Option Addr) (a0 a5 : Nat) (ad : Int) {R : RW} {w : World} (h : Q0b.N a4 a9 ag ah ai aa a7 ac ab aj a6 a2 a8 af ae a1 a3 a0 a5 ad R w) : Calls Try.prog 26 #[.agg #[.int .i64 a4, .int .i64 a9, .int .u64 ag, .int .i64 ah, .int .i64 ai, .int .i64 aa, .slice a7 ac ab, .int .u64 aj, .int .i64 a6, .int .i64 a2, .int .u64 a8, .int .i64 af, .int .i64 ae, .int .i64 a1, .slice a3 a0 a5, .int .u64 ad]] w fun e w' => ∃ v, e = .returned v ∧ R v w' := Q0b.ok a4 a9 ag ah ai aa a7 ac ab aj a6 a2 a8 af ae a1 a3 a0 a5 ad (Q0b.up a4 a9 ag ah ai aa a7 ac ab aj a6 a2 a8 af ae a1 a3 a0 a5 ad h)
theorem Q0b.run (a4 a9 ag ah ai aa : Int) (a7 : Option Addr) (ac ab : Nat) (aj a6 a2 a8 af ae a1 : Int) (a3 : Option Addr) (a0 a5 : Nat) (ad : Int) {V : Value} {Q : World → Prop} {w : World} (h : Q0b.N a4 a9 ag ah ai aa a7 ac ab aj a6 a2 a8 af ae a1 a3 a0 a5 ad (fun v w' => v = V ∧ Q w') w) : Calls Try.prog 26 #[.agg #[.int .i64 a4, .int .i64 a9, .int .u64 ag, .int .i64 ah, .int .i64 ai, .int .i64 aa, .slice a7 ac ab, .int .u64 aj, .int .i64 a6, .int .i64 a2, .int .u64 a8, .int .i64 af, .int .i64 ae, .int .i64 a1, .slice a3 a0 a5, .int .u64 ad]] w (Ret V Q) := (Q0b.go a4 a9 ag ah ai aa a7 ac ab aj a6 a2 a8 af ae a1 a3 a0 a5 ad h).mono fun e w' ⟨v, he, hv, hq⟩ => ⟨by rw [he, hv], hq⟩

def Q0n.M (o1 : Option Addr) (c0 d8 dg dm ds dr df : Int) (dh : Option Addr) (di db : Nat) (dk c9 d4 dc dl dj d5 : Int) (d6 : Option Addr) (d9 d7 : Nat) (dn : Int) (R : RW) (w : World) : Prop :=
 thenW (w.alloc (.cells #[.int .i64 d8, .int .i64 dg, .int .u64 dm, .int .i64 ds, .int .i64 dr, .int .i64 df, .slice dh di db, .int .u64 dk, .int .i64 c9, .int .i64 d4, .int .u64 dc, .int .i64 dl, .int .i64 dj, .int .i64 d5, .slice d6 d9 d7, .int .u64 dn] 38)) fun de =>
 ∃ (a8 aw c3 ca ck au : Int) (bs : Option Addr) (ap b6 : Nat) (cc a9 ax c2 cn cw aq : Int) (al : Option Addr) (bk bj : Nat) (cl : Int), cellsAt de (blk w.heap.size) [.int .i64 a8, .int .i64 aw, .int .u64 c3, .int .i64 ca, .int .i64 ck, .int .i64 au, .slice bs ap b6, .int .u64 cc, .int .i64 a9, .int .i64 ax, .int .u64 c2, .int .i64 cn, .int .i64 cw, .int .i64 aq, .slice al bk bj, .int .u64 cl] 0 ∧
 ∃ (a6 b5 c5 cd d3 b7 : Int) (bi : Option Addr) (b1 av : Nat) (co ab bo c6 cm cq bf : Int) (bm : Option Addr) (am b8 : Nat) (ct : Int), cellsAt de (blk w.heap.size) [.int .i64 a6, .int .i64 b5, .int .u64 c5, .int .i64 cd, .int .i64 d3, .int .i64 b7, .slice bi b1 av, .int .u64 co, .int .i64 ab, .int .i64 bo, .int .u64 c6, .int .i64 cm, .int .i64 cq, .int .i64 bf, .slice bm am b8, .int .u64 ct] 0 ∧
 ∃ (a1 bl c1 cv cz bq : Int) (bn : Option Addr) (bd ag : Nat) (cx a4 an c4 cu d2 b0 : Int) (ae : Option Addr) (ak b4 : Nat) (cs : Int), cellsAt de (blk w.heap.size) [.int .i64 a1, .int .i64 bl, .int .u64 c1, .int .i64 cv, .int .i64 cz, .int .i64 bq, .slice bn bd ag, .int .u64 cx, .int .i64 a4, .int .i64 an, .int .u64 c4, .int .i64 cu, .int .i64 d2, .int .i64 b0, .slice ae ak b4, .int .u64 cs] 0 ∧
 ∃ (a7 ah bw cf ci bb : Int) (b3 : Option Addr) (be bg : Nat) (ch aa af bx cj ce ai : Int) (bp : Option Addr) (bc br : Nat) (cg : Int), cellsAt de (blk w.heap.size) [.int .i64 a7, .int .i64 ah, .int .u64 bw, .int .i64 cf, .int .i64 ci, .int .i64 bb, .slice b3 be bg, .int .u64 ch, .int .i64 aa, .int .i64 af, .int .u64 bx, .int .i64 cj, .int .i64 ce, .int .i64 ai, .slice bp bc br, .int .u64 cg] 0 ∧
 ∃ (I0 : Nat → List Value → World → Prop) (e7 : Nat), I0 e7 [.int .i64 0] de ∧ ∀ (dt : Nat) (c8 : World) (da : Int), I0 dt [.int .i64 da] c8 →
 bif decide (da < 4) then (
 0 ≤ (da : Int) ∧ (da : Int) < (4 : Int) ∧
 ((da : Int) = 0 → 
 Calls Try.prog 23 #[.agg #[.int .i64 a8, .int .i64 aw, .int .u64 c3, .int .i64 ca, .int .i64 ck, .int .i64 au, .slice bs ap b6, .int .u64 cc, .int .i64 a9, .int .i64 ax, .int .u64 c2, .int .i64 cn, .int .i64 cw, .int .i64 aq, .slice al bk bj, .int .u64 cl]] c8 fun e3 e0 => ∃ (bt : Int), e3 = .returned (.int .i64 bt) ∧
 bif bt != 0 then (
 R (.int .i64 bt) e0) else (
 ∃ e6, e6 < dt ∧ I0 e6 [.int .i64 (IntKind.i64.wrap (da + 1))] e0)) ∧
 ((da : Int) = 1 → 
 Calls Try.prog 24 #[.agg #[.int .i64 a6, .int .i64 b5, .int .u64 c5, .int .i64 cd, .int .i64 d3, .int .i64 b7, .slice bi b1 av, .int .u64 co, .int .i64 ab, .int .i64 bo, .int .u64 c6, .int .i64 cm, .int .i64 cq, .int .i64 bf, .slice bm am b8, .int .u64 ct]] c8 fun e1 dx => ∃ (a0 : Int), e1 = .returned (.int .i64 a0) ∧
 bif a0 != 0 then (
 R (.int .i64 a0) dx) else (
 ∃ e4, e4 < dt ∧ I0 e4 [.int .i64 (IntKind.i64.wrap (da + 1))] dx)) ∧
 ((da : Int) = 2 → 
 Calls Try.prog 25 #[.agg #[.int .i64 a1, .int .i64 bl, .int .u64 c1, .int .i64 cv, .int .i64 cz, .int .i64 bq, .slice bn bd ag, .int .u64 cx, .int .i64 a4, .int .i64 an, .int .u64 c4, .int .i64 cu, .int .i64 d2, .int .i64 b0, .slice ae ak b4, .int .u64 cs]] c8 fun e2 du => ∃ (a2 : Int), e2 = .returned (.int .i64 a2) ∧
 bif a2 != 0 then (
 R (.int .i64 a2) du) else (
 ∃ e5, e5 < dt ∧ I0 e5 [.int .i64 (IntKind.i64.wrap (da + 1))] du)) ∧
 ((da : Int) = 3 → 
 Calls Try.prog 26 #[.agg #[.int .i64 a7, .int .i64 ah, .int .u64 bw, .int .i64 cf, .int .i64 ci, .int .i64 bb, .slice b3 be bg, .int .u64 ch, .int .i64 aa, .int .i64 af, .int .u64 bx, .int .i64 cj, .int .i64 ce, .int .i64 ai, .slice bp bc br, .int .u64 cg]] c8 fun dv dq => ∃ (ac : Int), dv = .returned (.int .i64 ac) ∧
 bif ac != 0 then (
 R (.int .i64 ac) dq) else (
 ∃ dz, dz < dt ∧ I0 dz [.int .i64 (IntKind.i64.wrap (da + 1))] dq)) ∧ True) else (
 ∃ (a3 b9 bz cy d0 ao : Int) (ar : Option Addr) (ba bh : Nat) (cp : Int), cellsAt c8 ((blk w.heap.size).add 0) [.int .i64 a3, .int .i64 b9, .int .u64 bz, .int .i64 cy, .int .i64 d0, .int .i64 ao, .slice ar ba bh, .int .u64 cp] 0 ∧
 Calls Try.prog 27 #[.pointer o1, .int .u64 c0, .agg #[.int .i64 a3, .int .i64 b9, .int .u64 bz, .int .i64 cy, .int .i64 d0, .int .i64 ao, .slice ar ba bh, .int .u64 cp]] c8 fun dy dd => ∃ (bv : Bool), dy = .returned (.bool bv) ∧
 bif !bv then (
 R (.int .i64 6) dd) else (
 ∃ (a5 b2 bu cr cb aj : Int) (az : Option Addr) (ay ad : Nat) (d1 : Int), cellsAt dd ((blk w.heap.size).add 8) [.int .i64 a5, .int .i64 b2, .int .u64 bu, .int .i64 cr, .int .i64 cb, .int .i64 aj, .slice az ay ad, .int .u64 d1] 0 ∧
 Calls Try.prog 27 #[.pointer o1, .int .u64 c0, .agg #[.int .i64 a5, .int .i64 b2, .int .u64 bu, .int .i64 cr, .int .i64 cb, .int .i64 aj, .slice az ay ad, .int .u64 d1]] dd fun dw dp => ∃ (c7 : Bool), dw = .returned (.bool c7) ∧
 bif !c7 then (
 R (.int .i64 6) dp) else (
 R (.int .i64 0) dp)))

theorem Q0n.ok (o1 : Option Addr) (aa a1 ac ai ak aj ab : Int) (a7 : Option Addr) (a8 a9 : Nat) (af a0 a2 ad ah ag a3 : Int) (a5 : Option Addr) (a4 a6 : Nat) (ae : Int) {R : RW} {w : World} (h : Q0n.M o1 aa a1 ac ai ak aj ab a7 a8 a9 af a0 a2 ad ah ag a3 a5 a4 a6 ae R w) : Calls Try.prog 11 #[.pointer o1, .int .u64 aa, .agg #[.int .i64 a1, .int .i64 ac, .int .u64 ai, .int .i64 ak, .int .i64 aj, .int .i64 ab, .slice a7 a8 a9, .int .u64 af, .int .i64 a0, .int .i64 a2, .int .u64 ad, .int .i64 ah, .int .i64 ag, .int .i64 a3, .slice a5 a4 a6, .int .u64 ae]] w fun e w' => ∃ v, e = .returned v ∧ R v w' :=
  Q0m follows (H := [(0, [0, 1, 5, 18], [(19, (.one (.int .i64)))])]) (args := [.pointer o1, .int .u64 aa, .agg #[.int .i64 a1, .int .i64 ac, .int .u64 ai, .int .i64 ak, .int .i64 aj, .int .i64 ab, .slice a7 a8 a9, .int .u64 af, .int .i64 a0, .int .i64 a2, .int .u64 ad, .int .i64 ah, .int .i64 ag, .int .i64 a3, .slice a5 a4 a6, .int .u64 ae]]) (cast (by kernel_rfl) h)

def Q0n.N (o1 : Option Addr) (ap a1 ab ah aj ai aa : Int) (a7 : Option Addr) (a8 a9 : Nat) (ae a0 a2 ac ag af a3 : Int) (a5 : Option Addr) (a4 a6 : Nat) (ad : Int) (R : RW) (w : World) : Prop :=
 ∀ (ax : World) (b2 : Nat), Ext no w ax → Priv w ax [b2] →
 ∃ (I0 : Nat → List Value → World → Prop) (b8 : Nat), I0 b8 [.int .i64 0] ax ∧ ∀ (ay : Nat) (al : World) (am : Int), I0 ay [.int .i64 am] al →
 (am < 4 →
 0 ≤ (am : Int) ∧ (am : Int) < (4 : Int) ∧
 ((am : Int) = 0 →
 ((Q02.F a1 ab ah aj ai aa a7 a8 a9 ae a0 a2 ac ag af a3 a5 a4 a6 ad) ≠ 0 →
 ∀ (ar : World), Ext no al ar →
 R (.int .i64 (Q02.F a1 ab ah aj ai aa a7 a8 a9 ae a0 a2 ac ag af a3 a5 a4 a6 ad)) ar) ∧
 ((Q02.F a1 ab ah aj ai aa a7 a8 a9 ae a0 a2 ac ag af a3 a5 a4 a6 ad) = 0 →
 (-9223372036854775808 : Int) ≤ (am + 1) ∧ (am + 1) < 9223372036854775808 ∧
 ∀ (ar : World), Ext no al ar →
 ∃ b6, b6 < ay ∧ I0 b6 [.int .i64 (am + 1)] ar)) ∧
 ((am : Int) = 1 →
 ((Q00.F a1 ab ah aj ai aa a7 a8 a9 ae a0 a2 ac ag af a3 a5 a4 a6 ad) ≠ 0 →
 ∀ (au : World), Ext no al au →
 R (.int .i64 (Q00.F a1 ab ah aj ai aa a7 a8 a9 ae a0 a2 ac ag af a3 a5 a4 a6 ad)) au) ∧
 ((Q00.F a1 ab ah aj ai aa a7 a8 a9 ae a0 a2 ac ag af a3 a5 a4 a6 ad) = 0 →
 (-9223372036854775808 : Int) ≤ (am + 1) ∧ (am + 1) < 9223372036854775808 ∧
 ∀ (au : World), Ext no al au →
 ∃ b7, b7 < ay ∧ I0 b7 [.int .i64 (am + 1)] au)) ∧
 ((am : Int) = 2 →
 ((Q03.F a1 ab ah aj ai aa a7 a8 a9 ae a0 a2 ac ag af a3 a5 a4 a6 ad) ≠ 0 →
 ∀ (aq : World), Ext no al aq →
 R (.int .i64 (Q03.F a1 ab ah aj ai aa a7 a8 a9 ae a0 a2 ac ag af a3 a5 a4 a6 ad)) aq) ∧
 ((Q03.F a1 ab ah aj ai aa a7 a8 a9 ae a0 a2 ac ag af a3 a5 a4 a6 ad) = 0 →
 (-9223372036854775808 : Int) ≤ (am + 1) ∧ (am + 1) < 9223372036854775808 ∧
 ∀ (aq : World), Ext no al aq →
 ∃ b5, b5 < ay ∧ I0 b5 [.int .i64 (am + 1)] aq)) ∧
 ((am : Int) = 3 →
 Calls Try.prog 26 #[.agg #[.int .i64 a1, .int .i64 ab, .int .u64 ah, .int .i64 aj, .int .i64 ai, .int .i64 aa, .slice a7 a8 a9, .int .u64 ae, .int .i64 a0, .int .i64 a2, .int .u64 ac, .int .i64 ag, .int .i64 af, .int .i64 a3, .slice a5 a4 a6, .int .u64 ad]] al fun b0 av => ∃ (ak : Int), b0 = .returned (.int .i64 ak) ∧
 Keep [b2] al av ∧
 (ak ≠ 0 →
 R (.int .i64 ak) av) ∧
 (ak = 0 →
 (-9223372036854775808 : Int) ≤ (am + 1) ∧ (am + 1) < 9223372036854775808 ∧
 ∃ b4, b4 < ay ∧ I0 b4 [.int .i64 (am + 1)] av))) ∧
 ((4 : Int) ≤ am →
 Calls Try.prog 27 #[.pointer o1, .int .u64 ap, .agg #[.int .i64 a1, .int .i64 ab, .int .u64 ah, .int .i64 aj, .int .i64 ai, .int .i64 aa, .slice a7 a8 a9, .int .u64 ae]] al fun b3 aw => ∃ (ao : Bool), b3 = .returned (.bool ao) ∧
 Keep [b2] al aw ∧
 (ao = false →
 R (.int .i64 6) aw) ∧
 (ao = true →
 Calls Try.prog 27 #[.pointer o1, .int .u64 ap, .agg #[.int .i64 a0, .int .i64 a2, .int .u64 ac, .int .i64 ag, .int .i64 af, .int .i64 a3, .slice a5 a4 a6, .int .u64 ad]] aw fun b1 az => ∃ (an : Bool), b1 = .returned (.bool an) ∧
 (an = false →
 R (.int .i64 6) az) ∧
 (an = true →
 R (.int .i64 0) az)))

theorem Q0n.up (o1 : Option Addr) (al a1 ac ai ak aj ab : Int) (a8 : Option Addr) (a9 aa : Nat) (af a0 a2 ad ah ag a3 : Int) (a5 : Option Addr) (a4 a6 : Nat) (ae : Int) {R : RW} {w : World} (h : Q0n.N o1 al a1 ac ai ak aj ab a8 a9 aa af a0 a2 ad ah ag a3 a5 a4 a6 ae R w) : Q0n.M o1 al a1 ac ai ak aj ab a8 a9 aa af a0 a2 ad ah ag a3 a5 a4 a6 ae R w := by
  unfold Q0n.M
  unfold Q0n.N at h
  refine Q01 fun b4 b6 => ?_
  have a7 := Blk.of_new b6
  have bl := ((Ext.refl no w)).size
  have b1 := (Ext.refl no w).x_alloc b6
  refine ⟨a1, ac, ai, ak, aj, ab, a8, a9, aa, af, a0, a2, ad, ah, ag, a3, a5, a4, a6, ae, ⟨a7.celli 0 rfl rfl, a7.celli 1 rfl rfl, a7.celli 2 rfl rfl, a7.celli 3 rfl rfl, a7.celli 4 rfl rfl, a7.celli 5 rfl rfl, a7.celli 6 rfl rfl, a7.celli 7 rfl rfl, a7.celli 8 rfl rfl, a7.celli 9 rfl rfl, a7.celli 10 rfl rfl, a7.celli 11 rfl rfl, a7.celli 12 rfl rfl, a7.celli 13 rfl rfl, a7.celli 14 rfl rfl, a7.celli 15 rfl rfl, trivial⟩, ?_⟩
  refine ⟨a1, ac, ai, ak, aj, ab, a8, a9, aa, af, a0, a2, ad, ah, ag, a3, a5, a4, a6, ae, ⟨a7.celli 0 rfl rfl, a7.celli 1 rfl rfl, a7.celli 2 rfl rfl, a7.celli 3 rfl rfl, a7.celli 4 rfl rfl, a7.celli 5 rfl rfl, a7.celli 6 rfl rfl, a7.celli 7 rfl rfl, a7.celli 8 rfl rfl, a7.celli 9 rfl rfl, a7.celli 10 rfl rfl, a7.celli 11 rfl rfl, a7.celli 12 rfl rfl, a7.celli 13 rfl rfl, a7.celli 14 rfl rfl, a7.celli 15 rfl rfl, trivial⟩, ?_⟩
  refine ⟨a1, ac, ai, ak, aj, ab, a8, a9, aa, af, a0, a2, ad, ah, ag, a3, a5, a4, a6, ae, ⟨a7.celli 0 rfl rfl, a7.celli 1 rfl rfl, a7.celli 2 rfl rfl, a7.celli 3 rfl rfl, a7.celli 4 rfl rfl, a7.celli 5 rfl rfl, a7.celli 6 rfl rfl, a7.celli 7 rfl rfl, a7.celli 8 rfl rfl, a7.celli 9 rfl rfl, a7.celli 10 rfl rfl, a7.celli 11 rfl rfl, a7.celli 12 rfl rfl, a7.celli 13 rfl rfl, a7.celli 14 rfl rfl, a7.celli 15 rfl rfl, trivial⟩, ?_⟩
  refine ⟨a1, ac, ai, ak, aj, ab, a8, a9, aa, af, a0, a2, ad, ah, ag, a3, a5, a4, a6, ae, ⟨a7.celli 0 rfl rfl, a7.celli 1 rfl rfl, a7.celli 2 rfl rfl, a7.celli 3 rfl rfl, a7.celli 4 rfl rfl, a7.celli 5 rfl rfl, a7.celli 6 rfl rfl, a7.celli 7 rfl rfl, a7.celli 8 rfl rfl, a7.celli 9 rfl rfl, a7.celli 10 rfl rfl, a7.celli 11 rfl rfl, a7.celli 12 rfl rfl, a7.celli 13 rfl rfl, a7.celli 14 rfl rfl, a7.celli 15 rfl rfl, trivial⟩, ?_⟩
  have h := h b4 (w.heap.size) b1 (Priv.cons bl a7.lt Priv.nil)
  obtain ⟨I0, b9, h0, h⟩ := h
  refine ⟨fun k vs ww => Blk ww w.heap.size 38 [.int .i64 a1, .int .i64 ac, .int .u64 ai, .int .i64 ak, .int .i64 aj, .int .i64 ab, .slice a8 a9 aa, .int .u64 af, .int .i64 a0, .int .i64 a2, .int .u64 ad, .int .i64 ah, .int .i64 ag, .int .i64 a3, .slice a5 a4 a6, .int .u64 ae] ∧ I0 k vs ww, b9, ⟨a7, h0⟩, fun bb ap bg hI => ?_⟩
  obtain ⟨a7, hI⟩ := hI
  have h := h bb ap bg hI
  refine bif_fo (fun az => ?_) (fun az => ?_)
  ·have h := h.2 (Int.not_lt.1 (of_decide_eq_false az))
   refine ⟨a1, ac, ai, ak, aj, ab, a8, a9, aa, af, ⟨a7.celli 0 rfl rfl, a7.celli 1 rfl rfl, a7.celli 2 rfl rfl, a7.celli 3 rfl rfl, a7.celli 4 rfl rfl, a7.celli 5 rfl rfl, a7.celli 6 rfl rfl, a7.celli 7 rfl rfl, trivial⟩, ?_⟩
   refine h.mono fun bj bf h => ?_
   obtain ⟨ao, he, hk, h⟩ := h
   refine ⟨ao, he, ?_⟩
   have a7 := hk.blk a7 (by simp)
   refine bif_of (fun ay => ?_) (fun ay => ?_)
   ·have h := h.1 (not_t ay)
    exact h
   have h := h.2 (not_f ay)
   refine ⟨a0, a2, ad, ah, ag, a3, a5, a4, a6, ae, ⟨a7.celli 8 rfl rfl, a7.celli 9 rfl rfl, a7.celli 10 rfl rfl, a7.celli 11 rfl rfl, a7.celli 12 rfl rfl, a7.celli 13 rfl rfl, a7.celli 14 rfl rfl, a7.celli 15 rfl rfl, trivial⟩, ?_⟩
   refine h.mono fun bh be h => ?_
   obtain ⟨am, he, h⟩ := h
   refine ⟨am, he, ?_⟩
   refine bif_of (fun b0 => ?_) (fun b0 => ?_)
   ·have h := h.1 (not_t b0)
    exact h
   have h := h.2 (not_f b0)
   exact h
  have h := h.1 (of_decide_eq_true az)
  obtain ⟨bm, bd, h⟩ := h
  refine ⟨bm, bd, ?_⟩
  refine ⟨fun hk => ?_, fun hk => ?_, fun hk => ?_, fun hk => ?_, trivial⟩
  ·have h := h.1 hk
   refine (Q02.pure a1 ac ai ak aj ab a8 a9 aa af a0 a2 ad ah ag a3 a5 a4 a6 ae).mono fun ee ww26 ⟨he, hxx⟩ => ⟨(Q02.F a1 ac ai ak aj ab a8 a9 aa af a0 a2 ad ah ag a3 a5 a4 a6 ae), he, ?_⟩
   have au := (Ext.refl no ap).trans hxx
   have a7 := a7.ext hxx id
   refine bif_of (fun b2 => ?_) (fun b2 => ?_)
   ·have h := h.1 (bne_t b2)
    have h := h ww26 au
    exact h
   have h := h.2 (bne_f b2)
   obtain ⟨ar, aq, h⟩ := h
   try rw [w64 ar aq]
   have h := h ww26 au
   obtain ⟨bi, hk, h⟩ := h
   exact ⟨bi, hk, a7, h⟩
  ·have h := h.2.1 hk
   refine (Q00.pure a1 ac ai ak aj ab a8 a9 aa af a0 a2 ad ah ag a3 a5 a4 a6 ae).mono fun ee ww29 ⟨he, hxx⟩ => ⟨(Q00.F a1 ac ai ak aj ab a8 a9 aa af a0 a2 ad ah ag a3 a5 a4 a6 ae), he, ?_⟩
   have aw := (Ext.refl no ap).trans hxx
   have a7 := a7.ext hxx id
   refine bif_of (fun ax => ?_) (fun ax => ?_)
   ·have h := h.1 (bne_t ax)
    have h := h ww29 aw
    exact h
   have h := h.2 (bne_f ax)
   obtain ⟨ar, aq, h⟩ := h
   try rw [w64 ar aq]
   have h := h ww29 aw
   obtain ⟨bk, hk, h⟩ := h
   exact ⟨bk, hk, a7, h⟩
  ·have h := h.2.2.1 hk
   refine (Q03.pure a1 ac ai ak aj ab a8 a9 aa af a0 a2 ad ah ag a3 a5 a4 a6 ae).mono fun ee ww32 ⟨he, hxx⟩ => ⟨(Q03.F a1 ac ai ak aj ab a8 a9 aa af a0 a2 ad ah ag a3 a5 a4 a6 ae), he, ?_⟩
   have av := (Ext.refl no ap).trans hxx
   have a7 := a7.ext hxx id
   refine bif_of (fun b3 => ?_) (fun b3 => ?_)
   ·have h := h.1 (bne_t b3)
    have h := h ww32 av
    exact h
   have h := h.2 (bne_f b3)
   obtain ⟨ar, aq, h⟩ := h
   try rw [w64 ar aq]
   have h := h ww32 av
   obtain ⟨bc, hk, h⟩ := h
   exact ⟨bc, hk, a7, h⟩
  have h := h.2.2.2 hk
  refine h.mono fun b8 ba h => ?_
  obtain ⟨an, he, hk, h⟩ := h
  refine ⟨an, he, ?_⟩
  have a7 := hk.blk a7 (by simp)
  refine bif_of (fun b5 => ?_) (fun b5 => ?_)
  ·have h := h.1 (bne_t b5)
   exact h
  have h := h.2 (bne_f b5)
  obtain ⟨ar, aq, h⟩ := h
  try rw [w64 ar aq]
  obtain ⟨b7, hk, h⟩ := h
  exact ⟨b7, hk, a7, h⟩

theorem Q0n.go (o1 : Option Addr) (aa a1 ac ai ak aj ab : Int) (a7 : Option Addr) (a8 a9 : Nat) (af a0 a2 ad ah ag a3 : Int) (a5 : Option Addr) (a4 a6 : Nat) (ae : Int) {R : RW} {w : World} (h : Q0n.N o1 aa a1 ac ai ak aj ab a7 a8 a9 af a0 a2 ad ah ag a3 a5 a4 a6 ae R w) : Calls Try.prog 11 #[.pointer o1, .int .u64 aa, .agg #[.int .i64 a1, .int .i64 ac, .int .u64 ai, .int .i64 ak, .int .i64 aj, .int .i64 ab, .slice a7 a8 a9, .int .u64 af, .int .i64 a0, .int .i64 a2, .int .u64 ad, .int .i64 ah, .int .i64 ag, .int .i64 a3, .slice a5 a4 a6, .int .u64 ae]] w fun e w' => ∃ v, e = .returned v ∧ R v w' := Q0n.ok o1 aa a1 ac ai ak aj ab a7 a8 a9 af a0 a2 ad ah ag a3 a5 a4 a6 ae (Q0n.up o1 aa a1 ac ai ak aj ab a7 a8 a9 af a0 a2 ad ah ag a3 a5 a4 a6 ae h)
theorem Q0n.run (o1 : Option Addr) (aa a1 ac ai ak aj ab : Int) (a7 : Option Addr) (a8 a9 : Nat) (af a0 a2 ad ah ag a3 : Int) (a5 : Option Addr) (a4 a6 : Nat) (ae : Int) {V : Value} {Q : World → Prop} {w : World} (h : Q0n.N o1 aa a1 ac ai ak aj ab a7 a8 a9 af a0 a2 ad ah ag a3 a5 a4 a6 ae (fun v w' => v = V ∧ Q w') w) : Calls Try.prog 11 #[.pointer o1, .int .u64 aa, .agg #[.int .i64 a1, .int .i64 ac, .int .u64 ai, .int .i64 ak, .int .i64 aj, .int .i64 ab, .slice a7 a8 a9, .int .u64 af, .int .i64 a0, .int .i64 a2, .int .u64 ad, .int .i64 ah, .int .i64 ag, .int .i64 a3, .slice a5 a4 a6, .int .u64 ae]] w (Ret V Q) := (Q0n.go o1 aa a1 ac ai ak aj ab a7 a8 a9 af a0 a2 ad ah ag a3 a5 a4 a6 ae h).mono fun e w' ⟨v, he, hv, hq⟩ => ⟨by rw [he, hv], hq⟩

def Q0p.M (aq aw ay b2 b4 ax : Int) (av : Option Addr) (ar au : Nat) (az : Int) (R : RW) (w : World) : Prop :=
 thenW (w.alloc (.cells #[.int .i64 aq, .int .i64 aw, .int .u64 ay, .int .i64 b2, .int .i64 b4, .int .i64 ax, .slice av ar au, .int .u64 az] 36)) fun b7 =>
 thenW (b7.alloc (.cells #[.int .i64 0, .int .i64 0, .int .u64 0, .int .i64 0, .int .i64 0, .int .i64 0, .slice none 0 0, .int .u64 0] 36)) fun b0 =>
 ∃ (al : Option Addr) (aj am : Nat), b0.cell? ((blk w.heap.size).add 6) = some (.slice al aj am) ∧
 Calls Try.prog 34 #[.slice al aj am] b0 fun b6 b5 => ∃ (ai : Option Addr) (aa ag : Nat), b6 = .returned (.slice ai aa ag) ∧
 Q06 b5 (((blk w.heap.size).add 6).add 0) ∧
 thenW (b5.setCell (((blk w.heap.size).add 6).add 0) (.slice ai aa ag)) fun b1 =>
 ∃ (a7 ac ak ap ao ad : Int) (a9 : Option Addr) (ah af : Nat) (an : Int), cellsAt b1 (blk w.heap.size) [.int .i64 a7, .int .i64 ac, .int .u64 ak, .int .i64 ap, .int .i64 ao, .int .i64 ad, .slice a9 ah af, .int .u64 an] 0 ∧
 putsK b1 (blk b7.heap.size) [.int .i64 a7, .int .i64 ac, .int .u64 ak, .int .i64 ap, .int .i64 ao, .int .i64 ad, .slice a9 ah af, .int .u64 an] 0 fun b3 =>
 ∃ (a0 a1 a6 ae ab a4 : Int) (a3 : Option Addr) (a5 a2 : Nat) (a8 : Int), cellsAt b3 (blk b7.heap.size) [.int .i64 a0, .int .i64 a1, .int .u64 a6, .int .i64 ae, .int .i64 ab, .int .i64 a4, .slice a3 a5 a2, .int .u64 a8] 0 ∧
 R (.agg #[.int .i64 a0, .int .i64 a1, .int .u64 a6, .int .i64 ae, .int .i64 ab, .int .i64 a4, .slice a3 a5 a2, .int .u64 a8]) b3

theorem Q0p.ok (a0 a5 a6 a9 a8 a1 : Int) (a3 : Option Addr) (a4 a2 : Nat) (a7 : Int) {R : RW} {w : World} (h : Q0p.M a0 a5 a6 a9 a8 a1 a3 a4 a2 a7 R w) : Calls Try.prog 22 #[.agg #[.int .i64 a0, .int .i64 a5, .int .u64 a6, .int .i64 a9, .int .i64 a8, .int .i64 a1, .slice a3 a4 a2, .int .u64 a7]] w fun e w' => ∃ v, e = .returned v ∧ R v w' :=
  Q0m follows (H := []) (args := [.agg #[.int .i64 a0, .int .i64 a5, .int .u64 a6, .int .i64 a9, .int .i64 a8, .int .i64 a1, .slice a3 a4 a2, .int .u64 a7]]) (cast (by kernel_rfl) h)

def Q0p.N (a3 a8 aa ae af a9 : Int) (a7 : Option Addr) (a4 a6 : Nat) (ab : Int) (R : RW) (w : World) : Prop :=
 ∀ (a5 : World) (ai ag : Nat), Ext no w a5 → Priv w a5 [ai, ag] →
 Calls Try.prog 34 #[.slice a7 a4 a6] a5 fun ah ad => ∃ (a0 : Option Addr) (a1 a2 : Nat), ah = .returned (.slice a0 a1 a2) ∧
 Keep [ai, ag] a5 ad ∧
 ∀ (ac : World), Ext (fun b => b = ag ∨ b = ai) ad ac →
 R (.agg #[.int .i64 a3, .int .i64 a8, .int .u64 aa, .int .i64 ae, .int .i64 af, .int .i64 a9, .slice a0 a1 a2, .int .u64 ab]) ac

theorem Q0p.up (a0 a4 a6 a8 a9 a5 : Int) (ac : Option Addr) (aa ab : Nat) (a7 : Int) {R : RW} {w : World} (h : Q0p.N a0 a4 a6 a8 a9 a5 ac aa ab a7 R w) : Q0p.M a0 a4 a6 a8 a9 a5 ac aa ab a7 R w := by
  unfold Q0p.M
  unfold Q0p.N at h
  refine Q01 fun ar e9 => ?_
  have ad := Blk.of_new e9
  have az := ((Ext.refl no w)).size
  have au := (Ext.refl no w).x_alloc e9
  refine Q01 fun aj ak => ?_
  have ae := Blk.of_new ak
  have av := (au).size
  have ai := Nat.ne_of_lt ad.lt
  have ad := ad.x_alloc ak
  have ap := au.x_alloc ak
  refine ⟨ac, aa, ab, ad.celli 6 rfl rfl, ?_⟩
  have h := h aj (w.heap.size) (ar.heap.size) ap (Priv.cons az ad.lt (Priv.cons av ae.lt Priv.nil))
  refine h.mono fun ay af h => ?_
  obtain ⟨a1, a2, a3, he, hk, h⟩ := h
  refine ⟨a1, a2, a3, he, ?_⟩
  have ad := hk.blk ad (by simp)
  have ae := hk.blk ae (by simp)
  have aq : Ext (fun b => b = w.heap.size) af af := ((Ext.refl no af)).none
  refine ⟨ad.cani 6 rfl rfl, Q01 fun ah al => ?_⟩
  have ao := aq.x_set (q := w.heap.size) (i := 6) rfl (.inl rfl) al
  have ad : Blk ah w.heap.size 36 [.int .i64 a0, .int .i64 a4, .int .u64 a6, .int .i64 a8, .int .i64 a9, .int .i64 a5, .slice a1 a2 a3, .int .u64 a7] := ad.seti 6 rfl al
  have ae := ae.oth (q := w.heap.size) (i := 6) rfl (Ne.symm ai) al
  refine ⟨a0, a4, a6, a8, a9, a5, a1, a2, a3, a7, ⟨ad.celli 0 rfl rfl, ad.celli 1 rfl rfl, ad.celli 2 rfl rfl, ad.celli 3 rfl rfl, ad.celli 4 rfl rfl, ad.celli 5 rfl rfl, ad.celli 6 rfl rfl, ad.celli 7 rfl rfl, trivial⟩, ?_⟩
  have am : Ext (fun b => b = ar.heap.size ∨ b = w.heap.size) af ah := (ao).mono fun _ h _ => .inr h
  refine Q0G (k := 0) (j := 0) ae (by exact Nat.le_of_ble_eq_true rfl) fun ag ax aw => ?_
  have an := am.x_puts ax (.inl (.inl rfl))
  have ae : Blk ag ar.heap.size 36 [.int .i64 a0, .int .i64 a4, .int .u64 a6, .int .i64 a8, .int .i64 a9, .int .i64 a5, .slice a1 a2 a3, .int .u64 a7] := aw
  refine ⟨a0, a4, a6, a8, a9, a5, a1, a2, a3, a7, ⟨ae.celli 0 rfl rfl, ae.celli 1 rfl rfl, ae.celli 2 rfl rfl, ae.celli 3 rfl rfl, ae.celli 4 rfl rfl, ae.celli 5 rfl rfl, ae.celli 6 rfl rfl, ae.celli 7 rfl rfl, trivial⟩, ?_⟩
  have h := h ag an
  exact h

theorem Q0p.go (a0 a5 a6 a9 a8 a1 : Int) (a3 : Option Addr) (a4 a2 : Nat) (a7 : Int) {R : RW} {w : World} (h : Q0p.N a0 a5 a6 a9 a8 a1 a3 a4 a2 a7 R w) : Calls Try.prog 22 #[.agg #[.int .i64 a0, .int .i64 a5, .int .u64 a6, .int .i64 a9, .int .i64 a8, .int .i64 a1, .slice a3 a4 a2, .int .u64 a7]] w fun e w' => ∃ v, e = .returned v ∧ R v w' := Q0p.ok a0 a5 a6 a9 a8 a1 a3 a4 a2 a7 (Q0p.up a0 a5 a6 a9 a8 a1 a3 a4 a2 a7 h)
def Q0l.M  (R : RW) (w : World) : Prop :=
 thenW (w.alloc (.map #[] 0)) fun a0 =>
 thenW (a0.alloc (.cells #[.map (some w.heap.size)] 69)) fun a1 =>
 R (.pointer (some (blk a0.heap.size))) a1

theorem Q0l.ok  {R : RW} {w : World} (h : Q0l.M  R w) : Calls Try.prog 7 #[] w fun e w' => ∃ v, e = .returned v ∧ R v w' :=
  Q0m follows (H := []) (args := []) (cast (by kernel_rfl) h)

def Q0l.N  (R : RW) (w : World) : Prop :=
 ∀ (a0 : World) (q2 : Nat), Ext no w a0 → a0.heap[q2]? = some (.map #[] 0) → w.heap.size ≤ q2 → q2 < a0.heap.size →
 ∀ (a1 : World) (q4 : Nat), Ext no a0 a1 → Blk a1 q4 69 [.map (some q2)] → a0.heap.size ≤ q4 → q4 < a1.heap.size →
 R (.pointer (some (blk q4))) a1

theorem Q0l.up  {R : RW} {w : World} (h : Q0l.N  R w) : Q0l.M  R w := by
  unfold Q0l.M
  unfold Q0l.N at h
  refine Q01 fun a0 e1 => ?_
  have h := h a0 w.heap.size ((Ext.refl no w).x_alloc e1) (Q40 e1) (Nat.le_refl _) (Q0C e1)
  refine Q01 fun a1 e3 => ?_
  have h := h a1 a0.heap.size ((Ext.refl no a0).x_alloc e3) (Blk.of_new e3) ((Ext.refl no a0)).size (Q0C e3)
  exact h

theorem Q0l.go  {R : RW} {w : World} (h : Q0l.N  R w) : Calls Try.prog 7 #[] w fun e w' => ∃ v, e = .returned v ∧ R v w' := Q0l.ok  (Q0l.up  h)
abbrev Q04.J1 (bi : Bool) (b3 : Addr) (bh : Option Addr) (R : RW) (bd : World) : Prop :=
 bif !bi then (
 thenW (bd.drew) fun an =>
 bh.elim False fun be =>
 ∃ (bb : Option Nat), an.cell? (be.add 0) = some (.map bb) ∧
 ∃ (a0 : Int), an.cell? ((b3.add 0).add 0) = some (.int .i64 a0) ∧
 ∃ (a8 aa ao b1 ax af : Int) (ad : Option Addr) (ab ac : Nat) (b2 : Int), cellsAt an (b3.add 0) [.int .i64 a8, .int .i64 aa, .int .u64 ao, .int .i64 b1, .int .i64 ax, .int .i64 af, .slice ad ab ac, .int .u64 b2] 0 ∧
 ∃ (a1 a3 a7 ag ah a5 : Int) (a4 : Option Addr) (a6 a2 : Nat) (ai : Int), cellsAt an (b3.add 8) [.int .i64 a1, .int .i64 a3, .int .u64 a7, .int .i64 ag, .int .i64 ah, .int .i64 a5, .slice a4 a6 a2, .int .u64 ai] 0 ∧
 Calls Try.prog 22 #[.agg #[.int .i64 a8, .int .i64 aa, .int .u64 ao, .int .i64 b1, .int .i64 ax, .int .i64 af, .slice ad ab ac, .int .u64 b2]] an fun bg b0 => ∃ (a9 ap ay b6 ba aw : Int) (al : Option Addr) (ar ak : Nat) (b9 : Int), bg = .returned (.agg #[.int .i64 a9, .int .i64 ap, .int .u64 ay, .int .i64 b6, .int .i64 ba, .int .i64 aw, .slice al ar ak, .int .u64 b9]) ∧
 cellsAt b0 (b3.add 8) [.int .i64 a1, .int .i64 a3, .int .u64 a7, .int .i64 ag, .int .i64 ah, .int .i64 a5, .slice a4 a6 a2, .int .u64 ai] 0 ∧
 b0.cell? ((b3.add 0).add 0) = some (.int .i64 a0) ∧
 b0.cell? (be.add 0) = some (.map bb) ∧
 Calls Try.prog 22 #[.agg #[.int .i64 a1, .int .i64 a3, .int .u64 a7, .int .i64 ag, .int .i64 ah, .int .i64 a5, .slice a4 a6 a2, .int .u64 ai]] b0 fun bf b4 => ∃ (ae aj az b7 b5 am : Int) (aq : Option Addr) (av au : Nat) (b8 : Int), bf = .returned (.agg #[.int .i64 ae, .int .i64 aj, .int .u64 az, .int .i64 b7, .int .i64 b5, .int .i64 am, .slice aq av au, .int .u64 b8]) ∧
 b4.cell? ((b3.add 0).add 0) = some (.int .i64 a0) ∧
 b4.cell? (be.add 0) = some (.map bb) ∧
 ∃ bc : World, (Instr.mapUpdate 67 (.map bb) (.int .i64 a0) (.agg #[.int .i64 a9, .int .i64 ap, .int .u64 ay, .int .i64 b6, .int .i64 ba, .int .i64 aw, .slice al ar ak, .int .u64 b9, .int .i64 ae, .int .i64 aj, .int .u64 az, .int .i64 b7, .int .i64 b5, .int .i64 am, .slice aq av au, .int .u64 b8])).run Try.prog b4 = .ok () bc ∧
 R (.int .i64 0) bc) else (
 R (.int .i64 0) bd)

abbrev Q04.J2 (au : Addr) (av : Option Addr) (R : RW) (ap : World) : Prop :=
 thenW (ap.drew) fun af =>
 av.elim False fun ar =>
 ∃ (an : Option Nat), af.cell? (ar.add 0) = some (.map an) ∧
 ∃ (a0 : Int), af.cell? ((au.add 0).add 0) = some (.int .i64 a0) ∧
 ∃ (a1 a4 ae aj ai a8 : Int) (a6 : Option Addr) (a3 a9 : Nat) (ag a2 aa ad ak ah ab : Int) (a7 : Option Addr) (a5 ac : Nat) (al : Int) (ao : Bool), (Instr.lookup 67 (.map an) (.int .i64 a0) true).run Try.prog af = .ok (.tuple #[.agg #[.int .i64 a1, .int .i64 a4, .int .u64 ae, .int .i64 aj, .int .i64 ai, .int .i64 a8, .slice a6 a3 a9, .int .u64 ag, .int .i64 a2, .int .i64 aa, .int .u64 ad, .int .i64 ak, .int .i64 ah, .int .i64 ab, .slice a7 a5 ac, .int .u64 al], .bool ao]) af ∧
 thenW (af.alloc (.cells #[.int .i64 0, .int .i64 0, .int .u64 0, .int .i64 0, .int .i64 0, .int .i64 0, .slice none 0 0, .int .u64 0, .int .i64 0, .int .i64 0, .int .u64 0, .int .i64 0, .int .i64 0, .int .i64 0, .slice none 0 0, .int .u64 0] 38)) fun am =>
 (Instr.lookup 67 (.map an) (.int .i64 a0) true).run Try.prog am = .ok (.tuple #[.agg #[.int .i64 a1, .int .i64 a4, .int .u64 ae, .int .i64 aj, .int .i64 ai, .int .i64 a8, .slice a6 a3 a9, .int .u64 ag, .int .i64 a2, .int .i64 aa, .int .u64 ad, .int .i64 ak, .int .i64 ah, .int .i64 ab, .slice a7 a5 ac, .int .u64 al], .bool ao]) am ∧
 am.cell? ((au.add 0).add 0) = some (.int .i64 a0) ∧
 am.cell? (ar.add 0) = some (.map an) ∧
 putsK am (blk af.heap.size) [.int .i64 a1, .int .i64 a4, .int .u64 ae, .int .i64 aj, .int .i64 ai, .int .i64 a8, .slice a6 a3 a9, .int .u64 ag, .int .i64 a2, .int .i64 aa, .int .u64 ad, .int .i64 ak, .int .i64 ah, .int .i64 ab, .slice a7 a5 ac, .int .u64 al] 0 fun aq =>
 Q04.J1 ao au av R aq

abbrev Q04.J3 (ao : Addr) (ar aq : Option Addr) (ap : Int) (R : RW) (am : World) : Prop :=
 ∃ (a1 ab ae aj ak a9 : Int) (a3 : Option Addr) (aa a2 : Nat) (af a0 a6 ad ah ag a7 : Int) (a4 : Option Addr) (a8 a5 : Nat) (ai : Int), cellsAt am ao [.int .i64 a1, .int .i64 ab, .int .u64 ae, .int .i64 aj, .int .i64 ak, .int .i64 a9, .slice a3 aa a2, .int .u64 af, .int .i64 a0, .int .i64 a6, .int .u64 ad, .int .i64 ah, .int .i64 ag, .int .i64 a7, .slice a4 a8 a5, .int .u64 ai] 0 ∧
 Calls Try.prog 11 #[.pointer aq, .int .u64 ap, .agg #[.int .i64 a1, .int .i64 ab, .int .u64 ae, .int .i64 aj, .int .i64 ak, .int .i64 a9, .slice a3 aa a2, .int .u64 af, .int .i64 a0, .int .i64 a6, .int .u64 ad, .int .i64 ah, .int .i64 ag, .int .i64 a7, .slice a4 a8 a5, .int .u64 ai]] am fun an al => ∃ (ac : Int), an = .returned (.int .i64 ac) ∧
 bif ac != 0 then (
 R (.int .i64 ac) al) else (
 Q04.J2 ao ar R al)

def Q04.M (a1 o2 : Option Addr) (ac a6 ad ag al ak ab : Int) (a5 : Option Addr) (a9 a3 : Nat) (ai a0 a2 ae af ah a4 : Int) (a7 : Option Addr) (aa a8 : Nat) (aj : Int) (R : RW) (w : World) : Prop :=
 thenW (w.alloc (.cells #[.int .i64 a6, .int .i64 ad, .int .u64 ag, .int .i64 al, .int .i64 ak, .int .i64 ab, .slice a5 a9 a3, .int .u64 ai, .int .i64 a0, .int .i64 a2, .int .u64 ae, .int .i64 af, .int .i64 ah, .int .i64 a4, .slice a7 aa a8, .int .u64 aj] 38)) fun am =>
 bif Option.isNone a1 then (
 R (.int .i64 23) am) else (
 Q04.J3 (blk w.heap.size) a1 o2 ac R am)

theorem Q04.ok (a1 o2 : Option Addr) (ac a6 ad ag al ak ab : Int) (a5 : Option Addr) (a9 a3 : Nat) (ai a0 a2 ae af ah a4 : Int) (a7 : Option Addr) (aa a8 : Nat) (aj : Int) {R : RW} {w : World} (h : Q04.M a1 o2 ac a6 ad ag al ak ab a5 a9 a3 ai a0 a2 ae af ah a4 a7 aa a8 aj R w) : Calls Try.prog 10 #[.pointer a1, .pointer o2, .int .u64 ac, .agg #[.int .i64 a6, .int .i64 ad, .int .u64 ag, .int .i64 al, .int .i64 ak, .int .i64 ab, .slice a5 a9 a3, .int .u64 ai, .int .i64 a0, .int .i64 a2, .int .u64 ae, .int .i64 af, .int .i64 ah, .int .i64 a4, .slice a7 aa a8, .int .u64 aj]] w fun e w' => ∃ v, e = .returned v ∧ R v w' :=
  Q0m follows (H := []) (args := [.pointer a1, .pointer o2, .int .u64 ac, .agg #[.int .i64 a6, .int .i64 ad, .int .u64 ag, .int .i64 al, .int .i64 ak, .int .i64 ab, .slice a5 a9 a3, .int .u64 ai, .int .i64 a0, .int .i64 a2, .int .u64 ae, .int .i64 af, .int .i64 ah, .int .i64 a4, .slice a7 aa a8, .int .u64 aj]]) (cast (by kernel_rfl) h)

def Q04.N (a1 o2 : Option Addr) (bk a0 ar ax bp bj ah : Int) (a5 : Option Addr) (ab ac : Nat) (b7 a3 a4 ap b4 b5 a7 : Int) (a9 : Option Addr) (a6 aa : Nat) (bb : Int) (R : RW) (w : World) : Prop :=
 (a1 = none →
 ∀ (av : World), Ext no w av →
 R (.int .i64 23) av) ∧
 (a1 ≠ none →
 ∀ (av : World) (c6 : Nat), Ext no w av → Priv w av [c6] →
 Calls Try.prog 11 #[.pointer o2, .int .u64 bk, .agg #[.int .i64 a0, .int .i64 ar, .int .u64 ax, .int .i64 bp, .int .i64 bj, .int .i64 ah, .slice a5 ab ac, .int .u64 b7, .int .i64 a3, .int .i64 a4, .int .u64 ap, .int .i64 b4, .int .i64 b5, .int .i64 a7, .slice a9 a6 aa, .int .u64 bb]] av fun c8 bs => ∃ (a2 : Int), c8 = .returned (.int .i64 a2) ∧
 Keep [c6] av bs ∧
 (a2 ≠ 0 →
 R (.int .i64 a2) bs) ∧
 (a2 = 0 →
 ∃ c1 : Addr, a1 = some c1 ∧
 ∃ (c7 : Option Nat), bs.cell? (c1.add 0) = some (.map c7) ∧
 ∀ (bn : World), Ext no bs bn →
 ∃ (ad ae b0 bh bf ai : Int) (ao : Option Addr) (aj am : Nat) (be a8 ak b9 bg bl ag : Int) (af : Option Addr) (au an : Nat) (bo : Int) (c5 : Bool), (Instr.lookup 67 (.map c7) (.int .i64 a0) true).run Try.prog bn = .ok (.tuple #[.agg #[.int .i64 ad, .int .i64 ae, .int .u64 b0, .int .i64 bh, .int .i64 bf, .int .i64 ai, .slice ao aj am, .int .u64 be, .int .i64 a8, .int .i64 ak, .int .u64 b9, .int .i64 bg, .int .i64 bl, .int .i64 ag, .slice af au an, .int .u64 bo], .bool c5]) bn ∧
 ∀ (aw : World) (ca : Nat), Ext no bn aw → Priv bn aw [ca] →
 (Instr.lookup 67 (.map c7) (.int .i64 a0) true).run Try.prog aw = .ok (.tuple #[.agg #[.int .i64 ad, .int .i64 ae, .int .u64 b0, .int .i64 bh, .int .i64 bf, .int .i64 ai, .slice ao aj am, .int .u64 be, .int .i64 a8, .int .i64 ak, .int .u64 b9, .int .i64 bg, .int .i64 bl, .int .i64 ag, .slice af au an, .int .u64 bo], .bool c5]) aw ∧
 aw.cell? (c1.add 0) = some (.map c7) ∧
 (c5 = false →
 ∀ (bq : World), Ext (fun b => b = ca) aw bq →
 ∃ (c4 : Option Nat), bq.cell? (c1.add 0) = some (.map c4) ∧
 Calls Try.prog 22 #[.agg #[.int .i64 a0, .int .i64 ar, .int .u64 ax, .int .i64 bp, .int .i64 bj, .int .i64 ah, .slice a5 ab ac, .int .u64 b7]] bq fun c9 br => ∃ (aq ay bm bx bu b1 : Int) (b2 : Option Addr) (b3 bc : Nat) (bz : Int), c9 = .returned (.agg #[.int .i64 aq, .int .i64 ay, .int .u64 bm, .int .i64 bx, .int .i64 bu, .int .i64 b1, .slice b2 b3 bc, .int .u64 bz]) ∧
 Keep [c6] bq br ∧
 br.cell? (c1.add 0) = some (.map c4) ∧
 Calls Try.prog 22 #[.agg #[.int .i64 a3, .int .i64 a4, .int .u64 ap, .int .i64 b4, .int .i64 b5, .int .i64 a7, .slice a9 a6 aa, .int .u64 bb]] br fun cb c0 => ∃ (al ba bi bt bv az : Int) (b6 : Option Addr) (bd b8 : Nat) (bw : Int), cb = .returned (.agg #[.int .i64 al, .int .i64 ba, .int .u64 bi, .int .i64 bt, .int .i64 bv, .int .i64 az, .slice b6 bd b8, .int .u64 bw]) ∧
 Keep [c6] br c0 ∧
 c0.cell? (c1.add 0) = some (.map c4) ∧
 ∃ (c2 : World), (Instr.mapUpdate 67 (.map c4) (.int .i64 a0) (.agg #[.int .i64 aq, .int .i64 ay, .int .u64 bm, .int .i64 bx, .int .i64 bu, .int .i64 b1, .slice b2 b3 bc, .int .u64 bz, .int .i64 al, .int .i64 ba, .int .u64 bi, .int .i64 bt, .int .i64 bv, .int .i64 az, .slice b6 bd b8, .int .u64 bw])).run Try.prog c0 = .ok () c2 ∧
 R (.int .i64 0) c2) ∧
 (c5 = true →
 ∀ (c3 : World), Ext (fun b => b = ca) aw c3 →
 R (.int .i64 0) c3)))

theorem Q04.up (a1 o2 : Option Addr) (ay a2 ae af an am ac : Int) (a5 : Option Addr) (aa ab : Nat) (ai a3 a4 ad ag ah a7 : Int) (a8 : Option Addr) (a6 a9 : Nat) (aj : Int) {R : RW} {w : World} (h : Q04.N a1 o2 ay a2 ae af an am ac a5 aa ab ai a3 a4 ad ag ah a7 a8 a6 a9 aj R w) : Q04.M a1 o2 ay a2 ae af an am ac a5 aa ab ai a3 a4 ad ag ah a7 a8 a6 a9 aj R w := by
  unfold Q04.M
  unfold Q04.N at h
  refine Q01 fun c0 cn => ?_
  have a0 := Blk.of_new cn
  have ct := ((Ext.refl no w)).size
  have bu := (Ext.refl no w).x_alloc cn
  refine bif_of (fun c6 => ?_) (fun c6 => ?_)
  ·have h := h.1 (Q1n c6)
   have h := h c0 bu
   exact h
  have h := h.2 (Q1l c6)
  first | unfold Q04.J3 | skip
  refine ⟨a2, ae, af, an, am, ac, a5, aa, ab, ai, a3, a4, ad, ag, ah, a7, a8, a6, a9, aj, ⟨a0.celli 0 rfl rfl, a0.celli 1 rfl rfl, a0.celli 2 rfl rfl, a0.celli 3 rfl rfl, a0.celli 4 rfl rfl, a0.celli 5 rfl rfl, a0.celli 6 rfl rfl, a0.celli 7 rfl rfl, a0.celli 8 rfl rfl, a0.celli 9 rfl rfl, a0.celli 10 rfl rfl, a0.celli 11 rfl rfl, a0.celli 12 rfl rfl, a0.celli 13 rfl rfl, a0.celli 14 rfl rfl, a0.celli 15 rfl rfl, trivial⟩, ?_⟩
  have h := h c0 (w.heap.size) bu (Priv.cons ct a0.lt Priv.nil)
  refine h.mono fun cr cl h => ?_
  obtain ⟨bg, he, hk, h⟩ := h
  refine ⟨bg, he, ?_⟩
  have a0 := hk.blk a0 (by simp)
  refine bif_of (fun cj => ?_) (fun cj => ?_)
  ·have h := h.1 (bne_t cj)
   exact h
  have h := h.2 (bne_f cj)
  first | unfold Q04.J2 | skip
  refine Q01 fun b3 cp => ?_
  have c1 := (Ext.refl no cl).x_drew cp
  have a0 := a0.x_drew cp
  obtain ⟨d1, bv, h⟩ := h
  refine Q0F bv ?_
  obtain ⟨d0, c8, h⟩ := h
  refine ⟨d0, (c1).cell c8 id, ?_⟩
  refine ⟨a2, a0.celli 0 rfl rfl, ?_⟩
  have h := h b3 c1
  obtain ⟨al, ao, b1, b7, b5, ar, az, au, aw, b4, ak, av, b2, b6, b9, aq, ap, b0, ax, bb, cv, cd, h⟩ := h
  refine ⟨al, ao, b1, b7, b5, ar, az, au, aw, b4, ak, av, b2, b6, b9, aq, ap, b0, ax, bb, cv, cd, ?_⟩
  refine Q01 fun bm ca => ?_
  have c9 := Blk.of_new ca
  have cy := ((Ext.refl no b3)).size
  have bx := Nat.ne_of_lt a0.lt
  have a0 := a0.x_alloc ca
  have c4 := (Ext.refl no b3).x_alloc ca
  have h := h bm (b3.heap.size) c4 (Priv.cons cy c9.lt Priv.nil)
  obtain ⟨cb, cf, h⟩ := h
  refine ⟨cb, a0.celli 0 rfl rfl, cf, ?_⟩
  have cc : Ext (fun b => b = b3.heap.size) bm bm := ((Ext.refl no bm)).none
  refine Q0G (k := 0) (j := 0) c9 (by exact Nat.le_of_ble_eq_true rfl) fun bw co cs => ?_
  have c2 := cc.x_puts co (.inl rfl)
  have a0 := a0.x_puts co bx
  have c9 : Blk bw b3.heap.size 38 [.int .i64 al, .int .i64 ao, .int .u64 b1, .int .i64 b7, .int .i64 b5, .int .i64 ar, .slice az au aw, .int .u64 b4, .int .i64 ak, .int .i64 av, .int .u64 b2, .int .i64 b6, .int .i64 b9, .int .i64 aq, .slice ap b0 ax, .int .u64 bb] := cs
  first | unfold Q04.J1 | skip
  refine bif_fo (fun ci => ?_) (fun ci => ?_)
  ·have h := h.2 (not_f ci)
   have h := h bw c2
   exact h
  have h := h.1 (not_t ci)
  refine Q01 fun ce cm => ?_
  have c7 := c2.x_drew cm
  have a0 := a0.x_drew cm
  refine Q0F bv ?_
  have h := h ce c7
  obtain ⟨cu, cg, h⟩ := h
  refine ⟨cu, cg, ?_⟩
  refine ⟨a2, a0.celli 0 rfl rfl, ?_⟩
  refine ⟨a2, ae, af, an, am, ac, a5, aa, ab, ai, ⟨a0.celli 0 rfl rfl, a0.celli 1 rfl rfl, a0.celli 2 rfl rfl, a0.celli 3 rfl rfl, a0.celli 4 rfl rfl, a0.celli 5 rfl rfl, a0.celli 6 rfl rfl, a0.celli 7 rfl rfl, trivial⟩, ?_⟩
  refine ⟨a3, a4, ad, ag, ah, a7, a8, a6, a9, aj, ⟨a0.celli 8 rfl rfl, a0.celli 9 rfl rfl, a0.celli 10 rfl rfl, a0.celli 11 rfl rfl, a0.celli 12 rfl rfl, a0.celli 13 rfl rfl, a0.celli 14 rfl rfl, a0.celli 15 rfl rfl, trivial⟩, ?_⟩
  refine h.mono fun cx cw h => ?_
  obtain ⟨ba, bc, bp, bz, br, be, bf, bh, bl, c3, he, hk, h⟩ := h
  refine ⟨ba, bc, bp, bz, br, be, bf, bh, bl, c3, he, ?_⟩
  have a0 := hk.blk a0 (by simp)
  obtain ⟨ck, h⟩ := h
  refine ⟨⟨a0.celli 8 rfl rfl, a0.celli 9 rfl rfl, a0.celli 10 rfl rfl, a0.celli 11 rfl rfl, a0.celli 12 rfl rfl, a0.celli 13 rfl rfl, a0.celli 14 rfl rfl, a0.celli 15 rfl rfl, trivial⟩, a0.celli 0 rfl rfl, ck, ?_⟩
  refine h.mono fun cz cq h => ?_
  obtain ⟨b8, bk, bo, bq, bs, bd, bi, bn, bj, bt, he, hk, h⟩ := h
  refine ⟨b8, bk, bo, bq, bs, bd, bi, bn, bj, bt, he, ?_⟩
  have a0 := hk.blk a0 (by simp)
  obtain ⟨ch, h⟩ := h
  refine ⟨a0.celli 0 rfl rfl, ch, ?_⟩
  obtain ⟨c5, hr, h⟩ := h
  refine ⟨c5, hr, ?_⟩
  exact h

theorem Q04.go (a1 o2 : Option Addr) (ac a6 ad ag al ak ab : Int) (a5 : Option Addr) (a9 a3 : Nat) (ai a0 a2 ae af ah a4 : Int) (a7 : Option Addr) (aa a8 : Nat) (aj : Int) {R : RW} {w : World} (h : Q04.N a1 o2 ac a6 ad ag al ak ab a5 a9 a3 ai a0 a2 ae af ah a4 a7 aa a8 aj R w) : Calls Try.prog 10 #[.pointer a1, .pointer o2, .int .u64 ac, .agg #[.int .i64 a6, .int .i64 ad, .int .u64 ag, .int .i64 al, .int .i64 ak, .int .i64 ab, .slice a5 a9 a3, .int .u64 ai, .int .i64 a0, .int .i64 a2, .int .u64 ae, .int .i64 af, .int .i64 ah, .int .i64 a4, .slice a7 aa a8, .int .u64 aj]] w fun e w' => ∃ v, e = .returned v ∧ R v w' := Q04.ok a1 o2 ac a6 ad ag al ak ab a5 a9 a3 ai a0 a2 ae af ah a4 a7 aa a8 aj (Q04.up a1 o2 ac a6 ad ag al ak ab a5 a9 a3 ai a0 a2 ae af ah a4 a7 aa a8 aj h)
theorem Q04.run (a1 o2 : Option Addr) (ac a6 ad ag al ak ab : Int) (a5 : Option Addr) (a9 a3 : Nat) (ai a0 a2 ae af ah a4 : Int) (a7 : Option Addr) (aa a8 : Nat) (aj : Int) {V : Value} {Q : World → Prop} {w : World} (h : Q04.N a1 o2 ac a6 ad ag al ak ab a5 a9 a3 ai a0 a2 ae af ah a4 a7 aa a8 aj (fun v w' => v = V ∧ Q w') w) : Calls Try.prog 10 #[.pointer a1, .pointer o2, .int .u64 ac, .agg #[.int .i64 a6, .int .i64 ad, .int .u64 ag, .int .i64 al, .int .i64 ak, .int .i64 ab, .slice a5 a9 a3, .int .u64 ai, .int .i64 a0, .int .i64 a2, .int .u64 ae, .int .i64 af, .int .i64 ah, .int .i64 a4, .slice a7 aa a8, .int .u64 aj]] w (Ret V Q) := (Q04.go a1 o2 ac a6 ad ag al ak ab a5 a9 a3 ai a0 a2 ae af ah a4 a7 aa a8 aj h).mono fun e w' ⟨v, he, hv, hq⟩ => ⟨by rw [he, hv], hq⟩

def Q0c.M (a1 : Option Addr) (R : RW) (w : World) : Prop :=
 bif !(Option.isNone a1) then (
 a1.elim False fun a2 =>
 ∃ (m3 : Option Nat), w.cell? (a2.add 0) = some (.map m3) ∧
 ∃ (n4 : Int), (Builtin.len_ #[67] 3 #[.map m3]).run Try.prog w = .ok (.int .i64 n4) w ∧
 R (.bool (decide (n4 > 0))) w) else (
 R (.bool false) w)

theorem Q0c.ok (a1 : Option Addr) {R : RW} {w : World} (h : Q0c.M a1 R w) : Calls Try.prog 16 #[.pointer a1] w fun e w' => ∃ v, e = .returned v ∧ R v w' :=
  Q0m follows (H := []) (args := [.pointer a1]) (cast (by kernel_rfl) h)

def Q0c.N (a1 : Option Addr) (R : RW) (w : World) : Prop :=
 (a1 ≠ none →
 ∃ a3 : Addr, a1 = some a3 ∧
 ∃ (m5 : Option Nat), w.cell? (a3.add 0) = some (.map m5) ∧
 ∃ (n6 : Int), (Builtin.len_ #[67] 3 #[.map m5]).run Try.prog w = .ok (.int .i64 n6) w ∧
 R (.bool (decide (n6 > 0))) w) ∧
 (a1 = none →
 R (.bool false) w)

theorem Q0c.up (a1 : Option Addr) {R : RW} {w : World} (h : Q0c.N a1 R w) : Q0c.M a1 R w := by
  unfold Q0c.M
  unfold Q0c.N at h
  refine bif_fo (fun c2 => ?_) (fun c2 => ?_)
  ·have h := h.2 (Q1n (not_f c2))
   exact h
  have h := h.1 (Q1l (not_t c2))
  obtain ⟨a3, a4, h⟩ := h
  refine Q0F a4 ?_
  obtain ⟨m5, a2, h⟩ := h
  refine ⟨m5, a2, ?_⟩
  obtain ⟨n6, a0, h⟩ := h
  refine ⟨n6, a0, ?_⟩
  exact h

theorem Q0c.go (a1 : Option Addr) {R : RW} {w : World} (h : Q0c.N a1 R w) : Calls Try.prog 16 #[.pointer a1] w fun e w' => ∃ v, e = .returned v ∧ R v w' := Q0c.ok a1 (Q0c.up a1 h)
theorem Q0c.run (a1 : Option Addr) {V : Value} {Q : World → Prop} {w : World} (h : Q0c.N a1 (fun v w' => v = V ∧ Q w') w) : Calls Try.prog 16 #[.pointer a1] w (Ret V Q) := (Q0c.go a1 h).mono fun e w' ⟨v, he, hv, hq⟩ => ⟨by rw [he, hv], hq⟩

def Q0e.M  (R : RW) (w : World) : Prop :=
 Calls Try.prog 5 #[.slice none 0 0] w fun ct cs => ∃ (b9 : Option Addr), ct = .returned (.pointer b9) ∧
 Calls Try.prog 6 #[.pointer b9] cs fun cq cn => ∃ (bm bs : Int), cq = .returned (.tuple #[.int .u64 bm, .int .u64 bs]) ∧
 thenW (cn.alloc (.cells #[.int .u8 120] 5)) fun cr =>
 ∃ (co : Option Addr) (cm cp : Nat) (c7 : World), (convert 34 34 (.slice (some (blk cn.heap.size)) 1 1)).run Try.prog cr = .ok (.slice co cm cp) c7 ∧
 Calls Try.prog 9 #[.pointer b9, .int .u64 bm, .agg #[.int .i64 0, .int .i64 0, .int .u64 0, .int .i64 1, .int .i64 0, .int .i64 0, .slice co cm cp, .int .u64 0]] c7 fun ch bd => ∃ (a6 aw bf bw c0 b5 : Int) (ay : Option Addr) (b1 b3 : Nat) (bz bh : Int), ch = .returned (.tuple #[.agg #[.int .i64 a6, .int .i64 aw, .int .u64 bf, .int .i64 bw, .int .i64 c0, .int .i64 b5, .slice ay b1 b3, .int .u64 bz], .int .i64 bh]) ∧
 thenW (bd.alloc (.cells #[.int .i64 0, .int .i64 0, .int .u64 0, .int .i64 0, .int .i64 0, .int .i64 0, .slice none 0 0, .int .u64 0] 36)) fun ce =>
 putsK ce (blk bd.heap.size) [.int .i64 a6, .int .i64 aw, .int .u64 bf, .int .i64 bw, .int .i64 c0, .int .i64 b5, .slice ay b1 b3, .int .u64 bz] 0 fun c6 =>
 thenW (c6.alloc (.cells #[.int .u8 121] 5)) fun cg =>
 ∃ (c4 : Option Addr) (c8 c9 : Nat) (ca : World), (convert 34 34 (.slice (some (blk c6.heap.size)) 1 1)).run Try.prog cg = .ok (.slice c4 c8 c9) ca ∧
 Calls Try.prog 9 #[.pointer b9, .int .u64 bm, .agg #[.int .i64 0, .int .i64 0, .int .u64 0, .int .i64 1, .int .i64 0, .int .i64 0, .slice c4 c8 c9, .int .u64 0]] ca fun cf c2 => ∃ (ai b0 bc c1 bv b4 : Int) (ax : Option Addr) (ar b7 : Nat) (bx bj : Int), cf = .returned (.tuple #[.agg #[.int .i64 ai, .int .i64 b0, .int .u64 bc, .int .i64 c1, .int .i64 bv, .int .i64 b4, .slice ax ar b7, .int .u64 bx], .int .i64 bj]) ∧
 thenW (c2.alloc (.cells #[.int .i64 0, .int .i64 0, .int .u64 0, .int .i64 0, .int .i64 0, .int .i64 0, .slice none 0 0, .int .u64 0] 36)) fun ci =>
 putsK ci (blk c2.heap.size) [.int .i64 ai, .int .i64 b0, .int .u64 bc, .int .i64 c1, .int .i64 bv, .int .i64 b4, .slice ax ar b7, .int .u64 bx] 0 fun cl =>
 Calls Try.prog 7 #[] cl fun cc c3 => ∃ (a0 : Option Addr), cc = .returned (.pointer a0) ∧
 ∃ (a2 ad az bb ba a9 : Int) (af : Option Addr) (ao ab : Nat) (br : Int), cellsAt c3 (blk bd.heap.size) [.int .i64 a2, .int .i64 ad, .int .u64 az, .int .i64 bb, .int .i64 ba, .int .i64 a9, .slice af ao ab, .int .u64 br] 0 ∧
 ∃ (a3 ac av bo bl a5 : Int) (a8 : Option Addr) (a7 al : Nat) (bn : Int), cellsAt c3 (blk c2.heap.size) [.int .i64 a3, .int .i64 ac, .int .u64 av, .int .i64 bo, .int .i64 bl, .int .i64 a5, .slice a8 a7 al, .int .u64 bn] 0 ∧
 Calls Try.prog 10 #[.pointer a0, .pointer b9, .int .u64 bs, .agg #[.int .i64 a2, .int .i64 ad, .int .u64 az, .int .i64 bb, .int .i64 ba, .int .i64 a9, .slice af ao ab, .int .u64 br, .int .i64 a3, .int .i64 ac, .int .u64 av, .int .i64 bo, .int .i64 bl, .int .i64 a5, .slice a8 a7 al, .int .u64 bn]] c3 fun cb bt => ∃ (b6 : Int), cb = .returned (.int .i64 b6) ∧
 bif bh == 0 then (
 bif bj == 0 then (
 bif b6 == 0 then (
 Calls Try.prog 16 #[.pointer a0] bt fun ck bu => ∃ (c5 : Bool), ck = .returned (.bool c5) ∧
 bif c5 then (
 ∃ (a1 aq au bg bp ap : Int) (an : Option Addr) (ak aj : Nat) (bk : Int), cellsAt bu (blk bd.heap.size) [.int .i64 a1, .int .i64 aq, .int .u64 au, .int .i64 bg, .int .i64 bp, .int .i64 ap, .slice an ak aj, .int .u64 bk] 0 ∧
 ∃ (a4 ae b2 be bq am : Int) (ag : Option Addr) (aa ah : Nat) (bi : Int), cellsAt bu (blk bd.heap.size) [.int .i64 a4, .int .i64 ae, .int .u64 b2, .int .i64 be, .int .i64 bq, .int .i64 am, .slice ag aa ah, .int .u64 bi] 0 ∧
 Calls Try.prog 11 #[.pointer b9, .int .u64 bs, .agg #[.int .i64 a1, .int .i64 aq, .int .u64 au, .int .i64 bg, .int .i64 bp, .int .i64 ap, .slice an ak aj, .int .u64 bk, .int .i64 a4, .int .i64 ae, .int .u64 b2, .int .i64 be, .int .i64 bq, .int .i64 am, .slice ag aa ah, .int .u64 bi]] bu fun cd cj => ∃ (b8 : Int), cd = .returned (.int .i64 b8) ∧
 R (.bool (b8 == 8)) cj) else (
 R (.bool false) bu)) else (
 R (.bool false) bt)) else (
 R (.bool false) bt)) else (
 R (.bool false) bt)

theorem Q0e.ok  {R : RW} {w : World} (h : Q0e.M  R w) : Calls Try.prog 4 #[] w fun e w' => ∃ v, e = .returned v ∧ R v w' :=
  Q0m follows (H := []) (args := []) (cast (by kernel_rfl) h)

def Q0e.N  (R : RW) (w : World) : Prop :=
 Calls Try.prog 5 #[.slice none 0 0] w fun bn bo => ∃ (am : Option Addr), bn = .returned (.pointer am) ∧
 Calls Try.prog 6 #[.pointer am] bo fun bm bl => ∃ (aq an : Int), bm = .returned (.tuple #[.int .u64 aq, .int .u64 an]) ∧
 ∀ (bc : World) (q9 : Nat), Ext no bl bc → Blk bc q9 5 [.int .u8 120] → bl.heap.size ≤ q9 → q9 < bc.heap.size →
 ∃ (b6 : Option Addr) (b5 b8 : Nat) (ba : World), (convert 34 34 (.slice (some (blk q9)) 1 1)).run Try.prog bc = .ok (.slice b6 b5 b8) ba ∧
 Calls Try.prog 9 #[.pointer am, .int .u64 aq, .agg #[.int .i64 0, .int .i64 0, .int .u64 0, .int .i64 1, .int .i64 0, .int .i64 0, .slice b6 b5 b8, .int .u64 0]] ba fun bd b1 => ∃ (a1 a6 a7 ad ai a3 : Int) (a5 : Option Addr) (a2 a4 : Nat) (ah aa : Int), bd = .returned (.tuple #[.agg #[.int .i64 a1, .int .i64 a6, .int .u64 a7, .int .i64 ad, .int .i64 ai, .int .i64 a3, .slice a5 a2 a4, .int .u64 ah], .int .i64 aa]) ∧
 ∀ (ao : World) (bb b3 : Nat), Ext no b1 ao → Blk ao bb 5 [.int .u8 121] → b1.heap.size ≤ bb → bb < ao.heap.size → Privq b1 bb [b3] →
 ∃ (b9 : Option Addr) (b7 b4 : Nat) (au : World), (convert 34 34 (.slice (some (blk bb)) 1 1)).run Try.prog ao = .ok (.slice b9 b7 b4) au ∧
 Keep [b3] ao au ∧
 Calls Try.prog 9 #[.pointer am, .int .u64 aq, .agg #[.int .i64 0, .int .i64 0, .int .u64 0, .int .i64 1, .int .i64 0, .int .i64 0, .slice b9 b7 b4, .int .u64 0]] au fun bg b2 => ∃ (a9 af ap av aw ac : Int) (ak : Option Addr) (aj ae : Nat) (ax ab : Int), bg = .returned (.tuple #[.agg #[.int .i64 a9, .int .i64 af, .int .u64 ap, .int .i64 av, .int .i64 aw, .int .i64 ac, .slice ak aj ae, .int .u64 ax], .int .i64 ab]) ∧
 Keep [b3] au b2 ∧
 ∀ (ar : World) (bk : Nat), Ext no b2 ar → Priv b2 ar [bk] →
 Calls Try.prog 7 #[] ar fun bi az => ∃ (a0 : Option Addr), bi = .returned (.pointer a0) ∧
 Keep [b3, bk] ar az ∧
 Calls Try.prog 10 #[.pointer a0, .pointer am, .int .u64 an, .agg #[.int .i64 a1, .int .i64 a6, .int .u64 a7, .int .i64 ad, .int .i64 ai, .int .i64 a3, .slice a5 a2 a4, .int .u64 ah, .int .i64 a9, .int .i64 af, .int .u64 ap, .int .i64 av, .int .i64 aw, .int .i64 ac, .slice ak aj ae, .int .u64 ax]] az fun bh al => ∃ (a8 : Int), bh = .returned (.int .i64 a8) ∧
 Keep [b3] az al ∧
 (aa = 0 →
 (ab = 0 →
 (a8 = 0 →
 Calls Try.prog 16 #[.pointer a0] al fun be ay => ∃ (b0 : Bool), be = .returned (.bool b0) ∧
 Keep [b3] al ay ∧
 (b0 = true →
 Calls Try.prog 11 #[.pointer am, .int .u64 an, .agg #[.int .i64 a1, .int .i64 a6, .int .u64 a7, .int .i64 ad, .int .i64 ai, .int .i64 a3, .slice a5 a2 a4, .int .u64 ah, .int .i64 a1, .int .i64 a6, .int .u64 a7, .int .i64 ad, .int .i64 ai, .int .i64 a3, .slice a5 a2 a4, .int .u64 ah]] ay fun bf bj => ∃ (ag : Int), bf = .returned (.int .i64 ag) ∧
 R (.bool (ag == 8)) bj) ∧
 (b0 = false →
 R (.bool false) ay)) ∧
 (a8 ≠ 0 →
 R (.bool false) al)) ∧
 (ab ≠ 0 →
 R (.bool false) al)) ∧
 (aa ≠ 0 →
 R (.bool false) al)

theorem Q0e.up  {R : RW} {w : World} (h : Q0e.N  R w) : Q0e.M  R w := by
  unfold Q0e.M
  unfold Q0e.N at h
  refine h.mono fun ca c9 h => ?_
  obtain ⟨bc, he, h⟩ := h
  refine ⟨bc, he, ?_⟩
  refine h.mono fun c8 b2 h => ?_
  obtain ⟨b0, av, he, h⟩ := h
  refine ⟨b0, av, he, ?_⟩
  refine Q01 fun c1 e8 => ?_
  have h := h c1 b2.heap.size ((Ext.refl no b2).x_alloc e8) (Blk.of_new e8) ((Ext.refl no b2)).size (Q0C e8)
  obtain ⟨bf, bk, bl, bh, hr, h⟩ := h
  refine ⟨bf, bk, bl, bh, hr, ?_⟩
  refine h.mono fun br ao h => ?_
  obtain ⟨a1, a4, a7, ag, af, a3, a5, a6, a2, ae, ar, he, h⟩ := h
  refine ⟨a1, a4, a7, ag, af, a3, a5, a6, a2, ae, ar, he, ?_⟩
  refine Q01 fun bx bo => ?_
  have a0 := Blk.of_new bo
  have bn := ((Ext.refl no ao)).size
  have be := (Ext.refl no ao).x_alloc bo
  refine Q0G (k := 0) (j := 0) a0 (by exact Nat.le_of_ble_eq_true rfl) fun az bz c3 => ?_
  have aw := be.x_puts bz (.inr bn)
  have a0 : Blk az ao.heap.size 36 [.int .i64 a1, .int .i64 a4, .int .u64 a7, .int .i64 ag, .int .i64 af, .int .i64 a3, .slice a5 a6 a2, .int .u64 ae] := c3
  refine Q01 fun b4 b1 => ?_
  have bu := a0.lt
  have a0 := a0.x_alloc b1
  have h := h b4 az.heap.size (ao.heap.size) (aw.x_alloc b1) (Blk.of_new b1) (aw).size (Q0C b1) (Privq.cons bn bu Privq.nil)
  obtain ⟨b9, bg, b5, bd, hr, hk, h⟩ := h
  refine ⟨b9, bg, b5, bd, hr, ?_⟩
  have a0 := hk.blk a0 (by simp)
  refine h.mono fun bv ap h => ?_
  obtain ⟨a8, a9, ai, am, ak, aa, ac, ad, ab, al, au, he, hk, h⟩ := h
  refine ⟨a8, a9, ai, am, ak, aa, ac, ad, ab, al, au, he, ?_⟩
  have a0 := hk.blk a0 (by simp)
  refine Q01 fun bt bi => ?_
  have aj := Blk.of_new bi
  have bp := ((Ext.refl no ap)).size
  have ax := Nat.ne_of_lt a0.lt
  have a0 := a0.x_alloc bi
  have bb := (Ext.refl no ap).x_alloc bi
  refine Q0G (k := 0) (j := 0) aj (by exact Nat.le_of_ble_eq_true rfl) fun ay bm c6 => ?_
  have b7 := bb.x_puts bm (.inr bp)
  have a0 := a0.x_puts bm ax
  have aj : Blk ay ap.heap.size 36 [.int .i64 a8, .int .i64 a9, .int .u64 ai, .int .i64 am, .int .i64 ak, .int .i64 aa, .slice ac ad ab, .int .u64 al] := c6
  have h := h ay (ap.heap.size) b7 (Priv.cons bp aj.lt Priv.nil)
  refine h.mono fun bw bs h => ?_
  obtain ⟨ah, he, hk, h⟩ := h
  refine ⟨ah, he, ?_⟩
  have a0 := hk.blk a0 (by simp)
  have aj := hk.blk aj (by simp)
  refine ⟨a1, a4, a7, ag, af, a3, a5, a6, a2, ae, ⟨a0.celli 0 rfl rfl, a0.celli 1 rfl rfl, a0.celli 2 rfl rfl, a0.celli 3 rfl rfl, a0.celli 4 rfl rfl, a0.celli 5 rfl rfl, a0.celli 6 rfl rfl, a0.celli 7 rfl rfl, trivial⟩, ?_⟩
  refine ⟨a8, a9, ai, am, ak, aa, ac, ad, ab, al, ⟨aj.celli 0 rfl rfl, aj.celli 1 rfl rfl, aj.celli 2 rfl rfl, aj.celli 3 rfl rfl, aj.celli 4 rfl rfl, aj.celli 5 rfl rfl, aj.celli 6 rfl rfl, aj.celli 7 rfl rfl, trivial⟩, ?_⟩
  refine h.mono fun c7 c2 h => ?_
  obtain ⟨aq, he, hk, h⟩ := h
  refine ⟨aq, he, ?_⟩
  have a0 := hk.blk a0 (by simp)
  refine bif_fo (fun b8 => ?_) (fun b8 => ?_)
  ·have h := h.2 (beq_f b8)
   exact h
  have h := h.1 (beq_t b8)
  refine bif_fo (fun bj => ?_) (fun bj => ?_)
  ·have h := h.2 (beq_f bj)
   exact h
  have h := h.1 (beq_t bj)
  refine bif_fo (fun b6 => ?_) (fun b6 => ?_)
  ·have h := h.2 (beq_f b6)
   exact h
  have h := h.1 (beq_t b6)
  refine h.mono fun c0 bq h => ?_
  obtain ⟨b3, he, hk, h⟩ := h
  refine ⟨b3, he, ?_⟩
  have a0 := hk.blk a0 (by simp)
  refine bif_fo (fun ba => ?_) (fun ba => ?_)
  ·have h := h.2 ba
   exact h
  have h := h.1 ba
  refine ⟨a1, a4, a7, ag, af, a3, a5, a6, a2, ae, ⟨a0.celli 0 rfl rfl, a0.celli 1 rfl rfl, a0.celli 2 rfl rfl, a0.celli 3 rfl rfl, a0.celli 4 rfl rfl, a0.celli 5 rfl rfl, a0.celli 6 rfl rfl, a0.celli 7 rfl rfl, trivial⟩, ?_⟩
  refine ⟨a1, a4, a7, ag, af, a3, a5, a6, a2, ae, ⟨a0.celli 0 rfl rfl, a0.celli 1 rfl rfl, a0.celli 2 rfl rfl, a0.celli 3 rfl rfl, a0.celli 4 rfl rfl, a0.celli 5 rfl rfl, a0.celli 6 rfl rfl, a0.celli 7 rfl rfl, trivial⟩, ?_⟩
  refine h.mono fun c5 c4 h => ?_
  obtain ⟨an, he, h⟩ := h
  refine ⟨an, he, ?_⟩
  exact h

theorem Q0e.go  {R : RW} {w : World} (h : Q0e.N  R w) : Calls Try.prog 4 #[] w fun e w' => ∃ v, e = .returned v ∧ R v w' := Q0e.ok  (Q0e.up  h)
theorem Q0e.run  {V : Value} {Q : World → Prop} {w : World} (h : Q0e.N  (fun v w' => v = V ∧ Q w') w) : Calls Try.prog 4 #[] w (Ret V Q) := (Q0e.go  h).mono fun e w' ⟨v, he, hv, hq⟩ => ⟨by rw [he, hv], hq⟩

def prfV (a : Ent) (aa : Option Addr) (ac : Nat) (b : Ent) (ba : Option Addr) (bc : Nat) : Value :=
  .agg #[.int .i64 a.w, .int .i64 a.i, .int .u64 a.pv, .int .i64 a.t, .int .i64 a.tw, .int .i64 a.ep, .slice aa a.body.length ac, .int .u64 a.sg, .int .i64 b.w, .int .i64 b.i, .int .u64 b.pv, .int .i64 b.t, .int .i64 b.tw, .int .i64 b.ep, .slice ba b.body.length bc, .int .u64 b.sg]
def checkP (hold : Ent → Bool) (a b : Ent) : Int :=
  if ¬ (Q0o a = true ∧ Q0o b = true) then 1 else if a.w ≠ b.w then 20 else if a.i ≠ b.i then 2 else if a = b then 8 else if ¬ (hold a = true ∧ hold b = true) then 6 else 0
section
variable {w w' : World} {o o' : Own} {k n : Nat} {K : Nat → Prop} {S : OS} {d : List Int} {a b : Ent} {aa ba : Option Addr} {ac bc : Nat}
theorem right_F : Q02.F a.w a.i a.pv a.t a.tw a.ep aa a.body.length ac a.sg b.w b.i b.pv b.t b.tw b.ep ba b.body.length bc b.sg = if Q0o a = true ∧ Q0o b = true then 0 else 1 := by
  unfold Q02.F
  rw [Q1H, Q1H]
  cases Q0o a <;> cases Q0o b <;> rfl
theorem Q3G (ha : RowAt w aa (bytesV a.body)) (hb : RowAt w ba (bytesV b.body)) :
    Calls Try.prog 26 #[prfV a aa ac b ba bc] w (Ret (.int .i64 (if a = b then 8 else 0)) fun w' => Ext no w w') := by
  refine Q0b.run a.w a.i a.pv a.t a.tw a.ep aa a.body.length ac a.sg b.w b.i b.pv b.t b.tw b.ep ba b.body.length bc b.sg ?_
  unfold Q0b.N
  intro w17 X17
  refine (Q3I (e := a) (f := b) (ha.no X17) (hb.no X17)).mono fun x w21 ⟨he, X21⟩ => ⟨_, he, fun h => ?_, fun h => ?_⟩
  · rw [if_pos (of_decide_eq_true h)]; exact ⟨rfl, X17.trans X21⟩
  · rw [if_neg (of_decide_eq_false h)]; exact ⟨rfl, X17.trans X21⟩
theorem Q1J (h : POrc w o k S) (ok : Tags w o) (p : Int) (hfa : Q0o a = true → a.fit) (hfb : Q0o b = true → b.fit) (ha : RowAt w aa (bytesV a.body)) (hb : RowAt w ba (bytesV b.body)) :
    Calls Try.prog 11 #[.pointer (some (blk k)), .int .u64 p, prfV a aa ac b ba bc] w (Ret (.int .i64 (checkP (holdsE S p) a b)) fun w' => Ext no w w') := by
  refine Q0n.run (some (blk k)) p a.w a.i a.pv a.t a.tw a.ep aa a.body.length ac a.sg b.w b.i b.pv b.t b.tw b.ep ba b.body.length bc b.sg ?_
  unfold Q0n.N
  rw [right_F]
  intro w19 p20 X19 hp
  refine ⟨fun q vs w1 => ∃ t : Nat, vs = [.int .i64 t] ∧ q + t = 4 ∧ Ext no w w1 ∧ (0 < t → Q0o a = true ∧ Q0o b = true) ∧ (1 < t → a.w = b.w) ∧ (2 < t → a.i = b.i) ∧ (3 < t → a ≠ b), 4, ⟨0, rfl, rfl, X19, fun h => absurd h (by decide), fun h => absurd h (by decide), fun h => absurd h (by decide), fun h => absurd h (by decide)⟩, ?_⟩
  rintro q w1 i ⟨t, hi, hq, X1, c0, c1, c2, c3⟩
  simp only [List.cons.injEq, Value.int.injEq, true_and, and_true] at hi
  subst hi
  refine ⟨fun ht => ⟨by omega, by omega, fun h0 => ?_, fun h0 => ?_, fun h0 => ?_, fun h0 => ?_⟩, fun ht => ?_⟩
  · obtain rfl : t = 0 := by omega
    by_cases hr : Q0o a = true ∧ Q0o b = true
    · rw [if_pos hr]
      exact ⟨fun h => absurd rfl h, fun _ => ⟨by decide, by decide, fun w26 X26 => ⟨q - 1, by omega, 1, rfl, by omega, X1.trans X26, fun _ => hr, fun h => absurd h (by decide), fun h => absurd h (by decide), fun h => absurd h (by decide)⟩⟩⟩
    · rw [if_neg hr]
      exact ⟨fun _ w26 X26 => ⟨by unfold checkP; rw [if_pos hr], X1.trans X26⟩, fun h => absurd h (by decide)⟩
  · obtain rfl : t = 1 := by omega
    unfold Q00.F
    by_cases hr : a.w = b.w
    · rw [if_pos hr]
      exact ⟨fun h => absurd rfl h, fun _ => ⟨by decide, by decide, fun w26 X26 => ⟨q - 1, by omega, 2, rfl, by omega, X1.trans X26, fun _ => c0 (by decide), fun _ => hr, fun h => absurd h (by decide), fun h => absurd h (by decide)⟩⟩⟩
    · rw [if_neg hr]
      exact ⟨fun _ w26 X26 => ⟨by unfold checkP; rw [if_neg (not_not_intro (c0 (by decide))), if_pos hr], X1.trans X26⟩, fun h => absurd h (by decide)⟩
  · obtain rfl : t = 2 := by omega
    unfold Q03.F
    by_cases hr : a.i = b.i
    · rw [if_pos hr]
      exact ⟨fun h => absurd rfl h, fun _ => ⟨by decide, by decide, fun w26 X26 => ⟨q - 1, by omega, 3, rfl, by omega, X1.trans X26, fun _ => c0 (by decide), fun _ => c1 (by decide), fun _ => hr, fun h => absurd h (by decide)⟩⟩⟩
    · rw [if_neg hr]
      exact ⟨fun _ w26 X26 => ⟨by unfold checkP; rw [if_neg (not_not_intro (c0 (by decide))), if_neg (not_not_intro (c1 (by decide))), if_pos hr], X1.trans X26⟩, fun h => absurd h (by decide)⟩
  · obtain rfl : t = 3 := by omega
    refine (Q3G (a := a) (b := b) (ha.no X1) (hb.no X1)).mono fun x w37 ⟨he, X37⟩ => ⟨_, he, X37.kept, fun h => ?_, fun h => ?_⟩
    · by_cases hr : a = b
      · rw [if_pos hr]
        exact ⟨by unfold checkP; rw [if_neg (not_not_intro (c0 (by decide))), if_neg (not_not_intro (c1 (by decide))), if_neg (not_not_intro (c2 (by decide))), if_pos hr], X1.trans X37⟩
      · rw [if_neg hr] at h; exact absurd rfl h
    · by_cases hr : a = b
      · rw [if_pos hr] at h; exact absurd h (by decide)
      · exact ⟨by decide, by decide, q - 1, by omega, 4, rfl, by omega, X1.trans X37, fun _ => c0 (by decide), fun _ => c1 (by decide), fun _ => c2 (by decide), fun _ => hr⟩
  · obtain rfl : t = 4 := by omega
    have s1 := Step.of_no X1 ok
    have hc : checkP (holdsE S p) a b = if ¬ (holdsE S p a = true ∧ holdsE S p b = true) then 6 else 0 := by
      unfold checkP
      rw [if_neg (not_not_intro (c0 (by decide))), if_neg (not_not_intro (c1 (by decide))), if_neg (not_not_intro (c2 (by decide))), if_neg (c3 (by decide))]
    rw [hc]
    refine (HoldsO (h.step s1 id) s1.ok p (e := a) hfa (ha.no X1)).mono fun x w29 ⟨he, X29⟩ => ⟨_, he, X29.kept, fun hh => ⟨by rw [if_pos (fun q => by rw [hh] at q; cases q.1)], X1.trans X29⟩, fun hh => ?_⟩
    have s2 := s1.trans (Step.of_no X29 s1.ok)
    refine (HoldsO (h.step s2 id) s2.ok p (e := b) hfb ((hb.no X1).no X29)).mono fun x w33 ⟨he, X33⟩ => ⟨_, he, fun hk => ⟨by rw [if_pos (fun q => by rw [hk] at q; cases q.2)], (X1.trans X29).trans X33⟩, fun hk => ⟨by rw [if_neg (not_not_intro ⟨hh, hk⟩)], (X1.trans X29).trans X33⟩⟩
end
open W (OwnB GivesW numR countR doneR zig unzig intR)
theorem inf38 : (Try.prog.info? 38).map (fun i => (i.zero, i.size, i.bytes)) = some (some (.agg #[.int .i64 0, .int .i64 0, .int .u64 0, .int .i64 0, .int .i64 0, .int .i64 0, .slice none 0 0, .int .u64 0, .int .i64 0, .int .i64 0, .int .u64 0, .int .i64 0, .int .i64 0, .int .i64 0, .slice none 0 0, .int .u64 0]), 16, 160) := by kernel_rfl
def i64V (n : Int) : Value := .int .i64 n
def PrfV (w : World) (o : Own) (p : Ent × Ent) (v : Value) : Prop :=
  ∃ aa ac ba bc, v = prfV p.1 aa ac p.2 ba bc ∧ Row w o aa (bytesV p.1.body) ∧ Row w o ba (bytesV p.2.body) ∧ p.1.body.length ≤ ac ∧ p.2.body.length ≤ bc
def PrfL (w : World) (o : Own) : List (Int × (Ent × Ent)) → List (Int × Value) → Prop
  | [], [] => True
  | p :: r, q :: s => p.1 = q.1 ∧ PrfV w o p.2 q.2 ∧ PrfL w o r s
  | _, _ => False
section
variable {w w' : World} {o o' : Own} {k j n : Nat} {K : Nat → Prop} {S : OS} {a b : Ent} {aa ba : Option Addr} {ac bc : Nat}
theorem PrfV.step {p : Ent × Ent} {v : Value} (h : PrfV w o p v) (s : Step K w o w' o') : PrfV w' o' p v := by
  obtain ⟨aa, ac, ba, bc, h1, h2, h3, h4⟩ := h
  exact ⟨aa, ac, ba, bc, h1, h2.step s, h3.step s, h4⟩
theorem PrfL.step (s : Step K w o w' o') : ∀ {l : List (Int × (Ent × Ent))} {lv : List (Int × Value)}, PrfL w o l lv → PrfL w' o' l lv
  | [], [], _ => trivial
  | p :: r, q :: t, h => ⟨h.1, h.2.1.step s, PrfL.step s h.2.2⟩
  | [], _ :: _, h => h.elim
  | _ :: _, [], h => h.elim
theorem PrfL.look : ∀ {l : List (Int × (Ent × Ent))} {lv : List (Int × Value)}, PrfL w o l lv → ∀ x, (alook l x = none ∧ mlook lv x = none) ∨ ∃ s v, alook l x = some s ∧ mlook lv x = some v ∧ PrfV w o s v
  | [], [], _, x => .inl ⟨rfl, rfl⟩
  | p :: r, q :: s, h, x => by
    obtain ⟨h1, h2, h3⟩ := h
    simp only [alook, mlook, ← h1]
    by_cases hp : p.1 = x
    · rw [if_pos hp, if_pos hp]; exact .inr ⟨_, _, rfl, rfl, h2⟩
    · rw [if_neg hp, if_neg hp]; exact PrfL.look h3 x
  | [], _ :: _, h, _ => h.elim
  | _ :: _, [], h, _ => h.elim
theorem PrfL.put {x : Int} {t : Ent × Ent} {v : Value} (hv : PrfV w o t v) : ∀ {l : List (Int × (Ent × Ent))} {lv : List (Int × Value)}, PrfL w o l lv → PrfL w o (aput l x t) (mput lv x v)
  | [], [], _ => ⟨rfl, hv, trivial⟩
  | p :: r, q :: s, h => by
    obtain ⟨h1, h2, h3⟩ := h
    simp only [aput, mput, ← h1]
    by_cases hp : p.1 = x
    · rw [if_pos hp, if_pos hp]; exact ⟨rfl, hv, h3⟩
    · rw [if_neg hp, if_neg hp]; exact ⟨h1, h2, PrfL.put hv h3⟩
  | [], _ :: _, h => h.elim
  | _ :: _, [], h => h.elim
theorem PrfL.len : ∀ {l : List (Int × (Ent × Ent))} {lv : List (Int × Value)}, PrfL w o l lv → l.length = lv.length
  | [], [], _ => rfl
  | p :: r, q :: s, h => by simp [PrfL.len h.2.2]
  | [], _ :: _, h => h.elim
  | _ :: _, [], h => h.elim
def Alm (w : World) (o : Own) (k : Nat) (l : List (Int × (Ent × Ent))) : Prop :=
  o k = some k ∧ ∃ q lv, Blk w k 69 [.map (some q)] ∧ MapIs w q i64V lv ∧ o q = some k ∧ q ≠ k ∧ PrfL w o l lv
theorem Alm.lt {l : List (Int × (Ent × Ent))} (h : Alm w o k l) : k < w.heap.size := by obtain ⟨_, q, lv, hb, _⟩ := h; exact hb.lt
theorem Alm.step {l : List (Int × (Ent × Ent))} (h : Alm w o k l) (s : Step K w o w' o') (hk : ¬ K k) : Alm w' o' k l := by
  have hlt := h.lt
  obtain ⟨h0, q, lv, h1, h2, h3, h4, h5⟩ := h
  refine ⟨(s.own hlt).trans h0, q, lv, s.blk h1 h0 hk, ?_, (s.own h2.lt).trans h3, h4, h5.step s⟩
  have hq := s.at h2.lt fun i hi => by rw [h3] at hi; cases hi; exact hk
  obtain ⟨es, cl, e1, e2⟩ := h2
  exact ⟨es, cl, hq.trans e1, e2⟩
theorem Q3e {a : Option Addr} {c : Nat} {bs : List UInt8} (h : RowAt w a (bytesV bs)) (hl : bs.length ≤ 1000000) :
    Calls Try.prog 34 #[.slice a bs.length c] w (fun e w' => ∃ a' c', e = .returned (.slice a' bs.length c') ∧ OwnB w.heap.size w' a' c' bs ∧ Ext no w w') := by
  refine (Q0a.go _ _ _ (R := fun v w' => ∃ a' c', v = (.slice a' bs.length c') ∧ OwnB w.heap.size w' a' c' bs ∧ Ext no w w') ?_).mono fun e w' ⟨v, he, a, c, hv, hw⟩ => ⟨a, c, by rw [he, hv], hw⟩
  unfold Q0a.N
  refine ⟨fun hn => ?_, fun hn w2 q X hb hq hq' => ?_⟩
  · subst hn
    have : bs = [] := by simpa [bytesV] using h.none_nil
    subst this
    exact ⟨none, 0, rfl, OwnB.nil _ _, Ext.refl _ _⟩
  · have hO : OwnB w.heap.size w2 (some (blk q)) 0 [] := ⟨Q12 hb rfl (Nat.zero_le _), fun ad ha => by cases ha; exact ⟨hq, hq'⟩⟩
    obtain ⟨a', c', w', hr, hO', hx⟩ := hO.append (t := 34) (ty := 34) Try.underlying34 X.size (xc := c) (h.no X) (by simp; omega)
    rw [List.nil_append] at hr hO'
    exact ⟨a', _, c', w', hr, a', c', rfl, hO', X.then hx fun b hb => .inr hb⟩
theorem Q0W (ok : Tags w o) {e : Ent} {a : Option Addr} {c : Nat} (h : Row w o a (bytesV e.body)) (hl : e.body.length ≤ 1000000) :
    Calls Try.prog 22 #[entV e a c] w (fun x w' => ∃ o' a' c', x = .returned (entV e a' c') ∧ Step no w o w' o' ∧ Row w' o' a' (bytesV e.body) ∧ e.body.length ≤ c') := by
  refine (Q0p.go e.w e.i e.pv e.t e.tw e.ep a e.body.length c e.sg (R := fun v w' => ∃ o' a' c', v = (entV e a' c') ∧ Step no w o w' o' ∧ Row w' o' a' (bytesV e.body) ∧ e.body.length ≤ c') ?_).mono fun x w' ⟨v, he, o', a, c, hv, hw⟩ => ⟨o', a, c, by rw [he, hv], hw⟩
  unfold Q0p.N
  intro w10 p11 p12 X10 hp
  obtain ⟨s10, M10⟩ := Step.priv X10 hp ok
  have g11 := hp p11 (by simp)
  have g12 := hp p12 (by simp)
  refine (Q3e (h.step s10).1 hl).mono fun x w15 ⟨ca, cc, he, hO, X15⟩ => ⟨_, _, _, he, X15.kept, fun w24 X24 => ?_⟩
  have s15 := Step.of_no X15 s10.ok
  have s24 := Step.stores X24 s15.ok (M10.step s15) (by simp [or_comm])
  exact ⟨_, ca, cc, rfl, (s10.trans s15).trans' s24 (fun i hi => .inr (by simp at hi; omega)), (OwnB.tight hO (Nat.le_refl _)).step s24, hO.le⟩
theorem Q1t (ok : Tags w o) : Calls Try.prog 7 #[] w (fun x w' => ∃ k o', x = .returned (.pointer (some (blk k))) ∧ w.heap.size ≤ k ∧ Step no w o w' o' ∧ Alm w' o' k []) := by
  refine (Q0l.go (R := fun v w' => ∃ k o', v = (.pointer (some (blk k))) ∧ w.heap.size ≤ k ∧ Step no w o w' o' ∧ Alm w' o' k []) ?_).mono fun x w' ⟨v, he, k, o', hv, hw⟩ => ⟨k, o', by rw [he, hv], hw⟩
  unfold Q0l.N
  intro w1 q2 X1 hm hq hq' w3 q4 X3 hb h4 h4'
  have s1 := Step.of_no (X1.trans X3) ok
  have l3 := X3.size
  refine ⟨q4, tag (tag (grow w o) q2 q4) q4 q4, rfl, by omega, (s1.tag hq h4').tag (by omega) h4', Q0O, q2, [], hb, ?_, ?_, by omega, trivial⟩
  · have : MapIs w1 q2 i64V [] := ⟨#[], 0, hm, rfl, by simp, by simp⟩
    exact this.ext X3 id
  · rw [tag_ne (by omega)]; exact Q0O
theorem On_spec {l : List (Int × (Ent × Ent))} (h : Alm w o k l) : Calls Try.prog 16 #[.pointer (some (blk k))] w (Ret (.bool (decide (l ≠ []))) fun w' => w' = w) := by
  obtain ⟨h0, q, lv, h1, h2, h3, h4, h5⟩ := h
  refine Q0c.run _ ?_
  unfold Q0c.N
  refine ⟨fun _ => ⟨_, rfl, some q, h1.cella (i := 0) rfl, lv.length, h2.len Try.underlying67, ?_, rfl⟩, fun h => by cases h⟩
  congr 1
  rw [decide_eq_decide, ← h5.len]
  cases l <;> simp
def raiseP (S : OS) (p : Int) (l : List (Int × (Ent × Ent))) (a b : Ent) : Int × List (Int × (Ent × Ent)) :=
  if checkP (holdsE S p) a b = 0 then (0, match alook l a.w with | some _ => l | none => aput l a.w (a, b)) else (checkP (holdsE S p) a b, l)
theorem Q2l {l : List (Int × (Ent × Ent))} (A : Alm w o j l) (h : POrc w o k S) (ok : Tags w o) (hkj : k ≠ j) (p : Int) (hfa : Q0o a = true → a.fit) (hfb : Q0o b = true → b.fit) (ha : Row w o aa (bytesV a.body)) (hb : Row w o ba (bytesV b.body)) (la : a.body.length ≤ 1000000) (lb : b.body.length ≤ 1000000) :
    Calls Try.prog 10 #[.pointer (some (blk j)), .pointer (some (blk k)), .int .u64 p, prfV a aa ac b ba bc] w (Gs (fun i => i = j) w o (.int .i64 (raiseP S p l a b).1) fun w' o' => Alm w' o' j (raiseP S p l a b).2) := by
  refine (Q04.go (some (blk j)) (some (blk k)) p a.w a.i a.pv a.t a.tw a.ep aa a.body.length ac a.sg b.w b.i b.pv b.t b.tw b.ep ba b.body.length bc b.sg (R := fun v w' => ∃ o', v = (.int .i64 (raiseP S p l a b).1) ∧ Step (fun i => i = j) w o w' o' ∧ Alm w' o' j (raiseP S p l a b).2) ?_).mono fun x w' ⟨v, he, o', hv, hw⟩ => ⟨o', by rw [he, hv], hw⟩
  unfold Q04.N
  refine ⟨fun h => (by cases h), fun _ w20 p23 X20 hp => ?_⟩
  obtain ⟨s20, M20⟩ := Step.priv X20 hp ok
  have g23 := hp p23 (by simp)
  have hj := A.lt
  refine (Q1J (a := a) (b := b) (h.step s20 id) s20.ok p hfa hfb (ha.step s20).1 (hb.step s20).1).mono fun x w26 ⟨he, X26⟩ => ⟨_, he, X26.kept, fun hne => ?_, fun h0 => ?_⟩
  · have s26 := s20.trans (Step.of_no X26 s20.ok)
    unfold raiseP
    rw [if_neg hne]
    exact ⟨_, rfl, s26.none, A.step s26 id⟩
  · have s26 := s20.trans (Step.of_no X26 s20.ok)
    have A26 := A.step s26 id
    have M26 := M20.step (Step.of_no X26 s20.ok)
    obtain ⟨_, q, lv, h1, h2, h3, h4, h5⟩ := id A26
    refine ⟨_, rfl, some q, h1.cella (i := 0) rfl, fun w28 X28 => ?_⟩
    obtain ⟨i, hi, hz, hsz, hby⟩ := info_of inf38
    have hlk := fun (w1 : World) (hm : MapIs w1 q i64V lv) => hm.lookup (Q1v (k := .i64) Try.underlying3) Try.underlying67 hi hz a.w true
    have s28 := s26.trans (Step.of_no X28 s26.ok)
    have m28 := h2.ext X28 id
    have key : ∃ (x y : Ent) (xa : Option Addr) (xc : Nat) (ya : Option Addr) (yc : Nat), ((mlook lv a.w).getD (.agg #[.int .i64 0, .int .i64 0, .int .u64 0, .int .i64 0, .int .i64 0, .int .i64 0, .slice none 0 0, .int .u64 0, .int .i64 0, .int .i64 0, .int .u64 0, .int .i64 0, .int .i64 0, .int .i64 0, .slice none 0 0, .int .u64 0])) = prfV x xa xc y ya yc ∧ (mlook lv a.w).isSome = (alook l a.w).isSome := by
      rcases h5.look a.w with ⟨e1, e2⟩ | ⟨s, v, e1, e2, xa, xc, ya, yc, e3, _⟩
      · rw [e1, e2]; exact ⟨Ent.zero, Ent.zero, none, 0, none, 0, rfl, rfl⟩
      · rw [e1, e2]; exact ⟨s.1, s.2, xa, xc, ya, yc, e3, rfl⟩
    obtain ⟨x, y, xa, xc, ya, yc, key, kis⟩ := key
    have hl28 := hlk w28 m28
    rw [if_pos rfl, key, kis] at hl28
    refine ⟨x.w, x.i, x.pv, x.t, x.tw, x.ep, xa, x.body.length, xc, x.sg, y.w, y.i, y.pv, y.t, y.tw, y.ep, ya, y.body.length, yc, y.sg, (alook l a.w).isSome, hl28, fun w50 p51 X50 hp51 => ?_⟩
    have hl50 := hlk w50 (m28.ext X50 id)
    rw [if_pos rfl, key, kis] at hl50
    obtain ⟨s50', M50⟩ := Step.priv X50 hp51 s28.ok
    have s50 := s28.trans s50'
    have g51 := hp51 p51 (by simp)
    have A50 := A.step s50 id
    have l28 := X28.size
    have l26 := X26.size
    refine ⟨hl50, ((h1.ext X28 id).ext X50 id).cella (i := 0) rfl, fun hno w71 X71 => ?_, fun hyes w69 X69 => ?_⟩
    · have s71' := Step.stores X71 s50.ok M50 (by simp)
      have s71 := s50.trans' s71' fun i hi => .inr (by simp at hi; omega)
      have A71 := A50.step s71' (by simp; omega)
      have hno : alook l a.w = none := by cases hq : alook l a.w with | none => rfl | some z => rw [hq] at hno; cases hno
      obtain ⟨q0, q7, lv7, b1, b2, b3, b4, b5⟩ := id A71
      refine ⟨some q7, b1.cella (i := 0) rfl, ?_⟩
      have M71 : Mine [p23] w71 _ := ((M26.step (Step.of_no X28 s26.ok)).step s50').step s71'
      refine (Q0W (e := a) s71.ok (ha.step s71) la).mono fun x w83 ⟨o83, ca, cc, he, s83', rc, lc⟩ => ⟨_, _, _, _, _, _, _, _, _, _, he, M71.keep s83' (fun _ _ => id), (s83'.blk b1 q0 id).cella (i := 0) rfl, ?_⟩
      have s83 := s71.trans s83'
      refine (Q0W (e := b) s83.ok (hb.step s83) lb).mono fun x w94 ⟨o94, da, dc, he, s94', rd, ld⟩ => ⟨_, _, _, _, _, _, _, _, _, _, he, (M71.step s83').keep s94' (fun _ _ => id), (s94'.blk (s83'.blk b1 q0 id) ((s83'.own A71.lt).trans q0) id).cella (i := 0) rfl, ?_⟩
      have s94 := s83.trans s94'
      have A94 := (A71.step s83' id).step s94' id
      have s7194 := s83'.trans s94'
      have m94 : MapIs w94 q7 i64V lv7 := by
        have hq := s7194.at b2.lt fun i hi => id
        obtain ⟨es, cl, e1, e2⟩ := b2
        exact ⟨es, cl, hq.trans e1, e2⟩
      obtain ⟨w96, hu, hm, hx⟩ := m94.update (Q1v (k := .i64) Try.underlying3) Try.underlying67 a.w (prfV a ca cc b da dc)
      refine ⟨w96, hu, ?_⟩
      have X96 := hx (fun b => b = q7) rfl
      have tq : o94 q7 = some j := (s7194.own b2.lt).trans b3
      have s96' := Step.of_ext X96 s94.ok (p := j) fun b hb _ => by subst hb; exact tq
      have s96 := s94.none.trans s96'
      have hr : raiseP S p l a b = (0, aput l a.w (a, b)) := by unfold raiseP; rw [if_pos h0, hno]
      rw [hr]
      have lt94 := A94.lt
      refine ⟨_, rfl, s96, (s96'.own lt94).trans A94.1, q7, _, ((s94'.blk (s83'.blk b1 q0 id) ((s83'.own A71.lt).trans q0) id)).ext X96 (fun e => b4 e.symm), hm, (s96'.own (Nat.lt_of_lt_of_le b2.lt s7194.size)).trans tq, b4, ?_⟩
      exact PrfL.put ⟨ca, cc, da, dc, rfl, (rc.step s94').step s96', rd.step s96', lc, ld⟩ ((b5.step s7194).step s96')
    · have s69' := Step.stores X69 s50.ok M50 (by simp)
      have s69 := s50.trans' s69' fun i hi => .inr (by simp at hi; omega)
      have hr : raiseP S p l a b = (0, l) := by
        unfold raiseP; rw [if_pos h0]
        cases hq : alook l a.w with | some z => rfl | none => rw [hq] at hyes; cases hyes
      rw [hr]
      exact ⟨_, rfl, s69.none, A50.step s69' (by simp; omega)⟩
end
open W (OwnB GivesW numR countR doneR zig unzig intR)
def exA : Ent := ⟨0, 0, 0, 1, 0, 0, [120], 0⟩
def exB : Ent := ⟨0, 0, 0, 1, 0, 0, [121], 0⟩
theorem ex_fact : ∃ S1 S2 S3 : OS, ∃ x y : Ent, pairOf (OS.init []) = ((1, 2), S1) ∧ signE S1 1 exA = ((x, 0), S2) ∧ signE S2 1 exB = ((y, 0), S3) ∧ x.fit ∧ y.fit ∧ x.body.length = 1 ∧ y.body.length = 1 ∧ checkP (holdsE S3 2) x y = 0 ∧ checkP (holdsE S3 2) x x = 8 :=
  ⟨_, _, _, { exA with sg := 3 }, { exB with sg := 4 }, rfl, rfl, rfl, ⟨by decide, by decide, by decide, by decide⟩, ⟨by decide, by decide, by decide, by decide⟩, rfl, rfl, by decide, by decide⟩
theorem Q19 (w : World) : Calls Try.prog 4 #[] w (Ret (.bool true) fun w' => Ext no w w') := by
  refine Q0e.run ?_
  unfold Q0e.N
  obtain ⟨S1, S2, S3, x, y, f1, f2, f3, fx, fy, bx, by', f4, f5⟩ := ex_fact
  have ok0 : Tags w (fun _ => none) := fun b j _ h => by cases h
  refine (NewO (l := []) (c := 0) ok0 (RowAt.nil _ _) (by simp)).mono fun v w3 ⟨k, o3, hx, hk, s3, P3⟩ => ⟨_, hx, ?_⟩
  have i0 : OInv (OS.init []) := OInv.init (by simp)
  have nk : ∀ {w1 w2 : World} {o1 o2 : Own}, Step no w (fun _ => none) w1 o1 → Step (fun i => i = k) w1 o1 w2 o2 → Step no w (fun _ => none) w2 o2 := fun h1 h2 => h1.trans' h2 fun i hi => .inr (by omega)
  refine (PairO P3 s3.ok i0.ok (by decide)).mono fun v w7 ⟨o7, hx, s7', P7⟩ => ⟨_, _, hx, ?_⟩
  have i1 := (Q3p i0).1
  have u1 := (Q1Z i0.ok).2
  rw [f1] at P7 i1 u1 ⊢
  dsimp only at u1
  have s7 := nk s3 s7'
  intro w8 q9 X8 hb9 hq9 hq9'
  obtain ⟨w11, hc11, hr11, X11⟩ := litB Try.underlying34 Try.underlying5 [120] X8 hb9 hq9
  refine ⟨_, _, _, w11, hc11, ?_⟩
  have s11' := Step.of_no X11 s7.ok
  have s11 := s7.trans s11'
  have rA : Row w11 (grow w7 o7) (some (blk q9)) (bytesV exA.body) := Row.fresh hr11 fun ad ha => by cases ha; exact hq9
  refine (SignE (P7.step s11' id) s11.ok i1.ok (by have : (OS.init []).used.length = 0 := rfl; show S1.used.length < 1000000; omega) 1 (e := exA) (fun _ => ⟨by decide, by decide, by decide, by decide⟩) rA).mono fun v w22 ⟨o22, xa, xc, hx, s22', P22, rx, lx⟩ => ⟨_, _, _, _, _, _, _, _, _, _, _, hx, ?_⟩
  have i2 := Q2M i1 1 exA
  have u2 := (Q28 i1.ok 1 (textL exA)).2
  have e2 : (signE S1 1 exA).2.used.length ≤ S1.used.length + 1 := by
    unfold signE
    split
    · split <;> exact u2
    · exact Nat.le_succ _
  rw [f2] at P22 rx lx i2 e2 ⊢
  dsimp only at e2
  have s22 := nk s11 s22'
  intro w32 q33 p34 X32 hb33 hq33 hq33' hp34
  have g34 := hp34 p34 (by simp)
  obtain ⟨w36, hc36, hr36, X36⟩ := litB Try.underlying34 Try.underlying5 [121] X32 hb33 hq33
  have k36 : Keep [p34] w32 w36 := fun p hp hl => by
    rw [show p = p34 by simpa using hp] at hl ⊢
    have e := hc36.symm.trans (Q34 (P := Try.prog) (t := 34) Try.underlying34 Try.underlying5 (n := 1) (c := 1) hb33)
    injection e with _ e
    rw [e]
    exact ((Ext.refl (fun b => b = q33) w32).freeze (x := ⟨q33, _, none⟩) (.inl rfl) 1).block p34 hl (by omega)
  refine ⟨_, _, _, w36, hc36, k36, ?_⟩
  have s36' := Step.of_no X36 s22.ok
  have s36 := s22.trans s36'
  have l36 := X36.size
  have F36 : Free [p34] w36 (grow w22 o22) := fun p hp => by
    rw [show p = p34 by simpa using hp]
    refine ⟨?_, grow_ge g34.1⟩
    have hl := hr36.lt (by simp [bytesV]) rfl
    have : (blk q33).block = q33 := rfl
    omega
  have rB : Row w36 (grow w22 o22) (some (blk q33)) (bytesV exB.body) := Row.fresh hr36 fun ad ha => by cases ha; exact hq33
  refine (SignE (P22.step s36' id) s36.ok i2.ok (by have : (OS.init []).used.length = 0 := rfl; show S2.used.length < 1000000; omega) 1 (e := exB) (fun _ => ⟨by decide, by decide, by decide, by decide⟩) rB).mono fun v w47 ⟨o47, ya, yc, hx, s47', P47, ry, ly⟩ => ⟨_, _, _, _, _, _, _, _, _, _, _, hx, F36.keep s47', fun w56 p57 X56 hp57 => ?_⟩
  rw [f3] at P47 ry ly ⊢
  have s47 := nk s36 s47'
  have F47 := F36.step s47'
  have s56' := Step.of_no X56 s47.ok
  have s56 := s47.trans s56'
  have F56 : Free [p34, p57] w56 (grow w47 o47) := (F47.step s56').app (M := [p57]) (Free.of hp57)
  refine (Q1t s56.ok).mono fun v w60 ⟨j, o60, hx, hj, s60', A60⟩ => ⟨_, hx, F56.keep s60', ?_⟩
  have s60 := s56.trans s60'
  have F60 := (F56.step s60').sub (M := [p34]) (by simp)
  have P60 := (P47.step s56' id).step s60' id
  have rx60 := (((rx.step s36').step s47').step s56').step s60'
  have ry60 := (ry.step s56').step s60'
  have hkj : k ≠ j := by
    have := P47.lt
    have := X56.size
    omega
  refine (Q2l (a := x) (b := y) A60 P60 s60.ok hkj 2 (fun _ => fx) (fun _ => fy) rx60 ry60 (by omega) (by omega)).mono fun v w63 ⟨o63, hx, s63', A63⟩ => ⟨_, hx, F60.keep s63', fun _ => ⟨fun _ => ⟨fun hr => ?_, fun hr => ?_⟩, fun h => absurd rfl h⟩, fun h => absurd rfl h⟩
  · have hra : raiseP S3 2 [] x y = (0, aput [] x.w (x, y)) := by unfold raiseP; rw [if_pos f4]; rfl
    rw [hra] at A63
    have s63 := s60.trans' s63' fun i hi => .inr (by have := s56.size; omega)
    refine (On_spec A63).mono fun v w69 ⟨he, hw⟩ => ⟨_, he, by subst hw; exact Keep.refl _ _, fun _ => ?_, fun h => by simp [aput] at h⟩
    subst hw
    refine (Q1J (a := x) (b := x) (P60.step s63' hkj) s63.ok 2 (fun _ => fx) (fun _ => fx) (rx60.step s63').1 (rx60.step s63').1).mono fun v w73 ⟨he, X73⟩ => ⟨_, he, ?_, ?_⟩
    · rw [f5]; rfl
    · exact (s63.ext.mono fun b ⟨_, h, _⟩ _ => by cases h).trans X73
  · have hra : raiseP S3 2 [] x y = (0, aput [] x.w (x, y)) := by unfold raiseP; rw [if_pos f4]; rfl
    rw [hra] at hr
    exact absurd rfl hr
structure PE where
  e : Ent
  a : Option Addr
  c : Nat
def PE.C (x : PE) : List Value := entC x.e x.a x.c
def PE.Cs (l : List PE) : List Value := l.flatMap PE.C
theorem PE.len (x : PE) : x.C.length = 8 := rfl
theorem PE.Cs_length (l : List PE) : (PE.Cs l).length = l.length * 8 := by
  induction l with
  | nil => rfl
  | cons x r ih => simp only [PE.Cs, List.flatMap_cons, List.length_append, List.length_cons] at ih ⊢; rw [ih, PE.len]; omega
theorem PE.Cs_get : ∀ {l : List PE} {i : Nat} {x : PE}, l[i]? = some x → ∀ j, j < 8 → (PE.Cs l)[i * 8 + j]? = x.C[j]?
  | [], i, x, hi, j, hj => by simp at hi
  | a :: r, 0, x, hi, j, hj => by
    simp only [List.getElem?_cons_zero, Option.some.injEq] at hi
    subst hi
    simp only [PE.Cs, List.flatMap_cons, Nat.zero_mul, Nat.zero_add]
    rw [List.getElem?_append_left (by rw [PE.len]; omega)]
  | a :: r, i + 1, x, hi, j, hj => by
    simp only [List.getElem?_cons_succ] at hi
    have := PE.Cs_get hi j hj
    simp only [PE.Cs, List.flatMap_cons] at this ⊢
    rw [List.getElem?_append_right (by rw [PE.len]; omega), show (i + 1) * 8 + j - a.C.length = i * 8 + j by rw [PE.len]; omega]
    exact this
theorem PE.one (x : PE) : ∀ u ∈ x.C, u.oneCell' = true := fun u hu => by
  simp only [PE.C, entC, List.mem_cons, List.not_mem_nil, or_false] at hu
  rcases hu with rfl | rfl | rfl | rfl | rfl | rfl | rfl | rfl <;> rfl
theorem PE.cell {w : World} {la : Option Addr} {ad : Addr} {l : List PE} (hr : RowAt w la (PE.Cs l)) (ha : la = some ad) {i : Nat} {x : PE} (hi : l[i]? = some x) {j : Nat} {v : Value} (hv : x.C[j]? = some v) : w.cell? ((ad.add (i * 8)).add j) = some v := by
  subst ha
  have hj : j < 8 := by have := (List.getElem?_eq_some_iff.1 hv).1; exact this
  rw [add_add]
  exact hr.at_ ((PE.Cs_get hi j hj).trans hv)
open W (OwnB GivesW numR countR doneR zig unzig intR)
def Q0d.M (a5 : Option Addr) (a4 a7 : Nat) (R : RW) (w : World) : Prop :=
 ∃ (I0 : Nat → List Value → World → Prop) (m3 : Nat), I0 m3 [.int .i64 0] w ∧ ∀ (m4 : Nat) (a3 : World) (i2 : Int), I0 m4 [.int .i64 i2] a3 →
 bif decide (i2 < (a4 : Int)) then (
 a5.elim False fun a6 =>
 0 ≤ (i2 : Int) ∧ (i2 : Int) < (a4 : Int) ∧
 ∃ (a2 : Option Addr) (a0 a1 : Nat), a3.cell? ((a6.add (Int.toNat i2 * 8)).add 6) = some (.slice a2 a0 a1) ∧
 bif decide ((a0 : Int) > 1500) then (
 R (.bool false) a3) else (
 ∃ m8, m8 < m4 ∧ I0 m8 [.int .i64 (IntKind.i64.wrap (i2 + 1))] a3)) else (
 R (.bool true) a3)

theorem Q0d.ok (a2 : Option Addr) (a1 a0 : Nat) {R : RW} {w : World} (h : Q0d.M a2 a1 a0 R w) : Calls Try.prog 8 #[.slice a2 a1 a0] w fun e w' => ∃ v, e = .returned v ∧ R v w' :=
  Q0m follows (H := [(0, [0], [(3, (.one (.int .i64)))])]) (args := [.slice a2 a1 a0]) (cast (by kernel_rfl) h)

def Q0d.N (a5 : Option Addr) (a1 a8 : Nat) (R : RW) (w : World) : Prop :=
 ∃ (I0 : Nat → List Value → World → Prop) (m3 : Nat), I0 m3 [.int .i64 0] w ∧ ∀ (m4 : Nat) (a4 : World) (i2 : Int), I0 m4 [.int .i64 i2] a4 →
 (i2 < (a1 : Int) →
 ∃ a7 : Addr, a5 = some a7 ∧
 0 ≤ (i2 : Int) ∧ (i2 : Int) < (a1 : Int) ∧
 ∃ (a2 : Option Addr) (a0 a3 : Nat), a4.cell? ((a7.add (Int.toNat i2 * 8)).add 6) = some (.slice a2 a0 a3) ∧
 ((a0 : Int) > 1500 →
 R (.bool false) a4) ∧
 ((a0 : Int) ≤ 1500 →
 (-9223372036854775808 : Int) ≤ (i2 + 1) ∧ (i2 + 1) < 9223372036854775808 ∧
 ∃ a6, a6 < m4 ∧ I0 a6 [.int .i64 (i2 + 1)] a4)) ∧
 ((a1 : Int) ≤ i2 →
 R (.bool true) a4)

theorem Q0d.up (a5 : Option Addr) (a3 a4 : Nat) {R : RW} {w : World} (h : Q0d.N a5 a3 a4 R w) : Q0d.M a5 a3 a4 R w := by
  unfold Q0d.M
  unfold Q0d.N at h
  obtain ⟨I0, m3, h0, h⟩ := h
  refine ⟨I0, m3, h0, fun m4 a8 i2 hI => ?_⟩
  have h := h m4 a8 i2 hI
  refine bif_fo (fun c6 => ?_) (fun c6 => ?_)
  ·have h := h.2 (Int.not_lt.1 (of_decide_eq_false c6))
   exact h
  have h := h.1 (of_decide_eq_true c6)
  obtain ⟨a7, a9, h⟩ := h
  refine Q0F a9 ?_
  obtain ⟨ad, ae, h⟩ := h
  refine ⟨ad, ae, ?_⟩
  obtain ⟨a2, a0, a1, ab, h⟩ := h
  refine ⟨a2, a0, a1, ab, ?_⟩
  refine bif_of (fun a6 => ?_) (fun a6 => ?_)
  ·have h := h.1 (of_decide_eq_true a6)
   exact h
  have h := h.2 (Int.not_lt.1 (of_decide_eq_false a6))
  obtain ⟨af, aa, h⟩ := h
  try rw [w64 af aa]
  obtain ⟨ac, hk, h⟩ := h
  exact ⟨ac, hk, h⟩

theorem Q0d.go (a2 : Option Addr) (a1 a0 : Nat) {R : RW} {w : World} (h : Q0d.N a2 a1 a0 R w) : Calls Try.prog 8 #[.slice a2 a1 a0] w fun e w' => ∃ v, e = .returned v ∧ R v w' := Q0d.ok a2 a1 a0 (Q0d.up a2 a1 a0 h)
theorem Q0d.run (a2 : Option Addr) (a1 a0 : Nat) {V : Value} {Q : World → Prop} {w : World} (h : Q0d.N a2 a1 a0 (fun v w' => v = V ∧ Q w') w) : Calls Try.prog 8 #[.slice a2 a1 a0] w (Ret V Q) := (Q0d.go a2 a1 a0 h).mono fun e w' ⟨v, he, hv, hq⟩ => ⟨by rw [he, hv], hq⟩

theorem Q3H {w : World} {a : Option Addr} {c : Nat} {l : List PE} (h : RowAt w a (PE.Cs l)) (hl : l.length < 1000000) :
    Calls Try.prog 8 #[.slice a l.length c] w (Ret (.bool (l.all fun p => decide (p.e.body.length ≤ 1500))) fun w' => w' = w) := by
  refine Q0d.run _ _ _ ?_
  unfold Q0d.N
  refine ⟨fun q vs w1 => ∃ t : Nat, vs = [.int .i64 t] ∧ q + t = l.length ∧ w1 = w ∧ (l.take t).all (fun p => decide (p.e.body.length ≤ 1500)) = true, l.length, ⟨0, rfl, rfl, rfl, rfl⟩, ?_⟩
  rintro q w1 i ⟨t, hi, hq, rfl, hn⟩
  simp only [List.cons.injEq, Value.int.injEq, true_and, and_true] at hi
  subst hi
  refine ⟨fun ht => ?_, fun ht => ?_⟩
  · have htl : t < l.length := by omega
    have hg : l[t]? = some l[t] := List.getElem?_eq_getElem htl
    obtain ⟨ad, ha⟩ := h.addr (by intro e; have := PE.Cs_length l; rw [e] at this; simp at this; omega)
    refine ⟨ad, ha, by omega, by omega, l[t].a, l[t].e.body.length, l[t].c, by rw [Int.toNat_natCast]; exact PE.cell h ha hg (j := 6) rfl, fun hb => ⟨?_, rfl⟩, fun hb => ⟨by omega, by omega, q - 1, by omega, t + 1, rfl, by omega, rfl, ?_⟩⟩
    · congr 1
      rw [eq_comm, List.all_eq_false]
      exact ⟨l[t], List.getElem_mem htl, by simp; omega⟩
    · rw [List.take_add_one, hg, List.all_append, hn]
      simp; omega
  · obtain rfl : t = l.length := by omega
    rw [List.take_length] at hn
    rw [hn]
    exact ⟨rfl, rfl⟩
set_option maxRecDepth 100000
set_option maxHeartbeats 4000000
abbrev Q05.J1 (cd : Option Addr) (cb ce : Nat) (c1 : Int) (I0 : Nat → List Value → World → Prop) (j6 : Option Addr) (cc : Nat) (ba : Option Addr) (bb : Nat) (R : RW) (aa : World) : Prop :=
 ba.elim False fun ca =>
 0 ≤ (c1 : Int) ∧ (c1 : Int) < (bb : Int) ∧
 ∃ (c7 : Int), aa.cell? (ca.add (Int.toNat c1 * 1)) = some (.int .i64 c7) ∧
 j6.elim False fun cf =>
 ∃ (c8 : Option Nat), aa.cell? (cf.add 0) = some (.map c8) ∧
 ∃ (a7 al b8 be bf ae : Int) (ah : Option Addr) (ak ag : Nat) (bk a6 am ax bl bh aq : Int) (af : Option Addr) (aj ac : Nat) (bm : Int), (Instr.lookup 67 (.map c8) (.int .i64 c7) false).run Try.prog aa = .ok (.agg #[.int .i64 a7, .int .i64 al, .int .u64 b8, .int .i64 be, .int .i64 bf, .int .i64 ae, .slice ah ak ag, .int .u64 bk, .int .i64 a6, .int .i64 am, .int .u64 ax, .int .i64 bl, .int .i64 bh, .int .i64 aq, .slice af aj ac, .int .u64 bm]) aa ∧
 thenW (aa.alloc (.cells #[.int .i64 0, .int .i64 0, .int .u64 0, .int .i64 0, .int .i64 0, .int .i64 0, .slice none 0 0, .int .u64 0, .int .i64 0, .int .i64 0, .int .u64 0, .int .i64 0, .int .i64 0, .int .i64 0, .slice none 0 0, .int .u64 0] 38)) fun c6 =>
 putsK c6 (blk aa.heap.size) [.int .i64 a7, .int .i64 al, .int .u64 b8, .int .i64 be, .int .i64 bf, .int .i64 ae, .slice ah ak ag, .int .u64 bk, .int .i64 a6, .int .i64 am, .int .u64 ax, .int .i64 bl, .int .i64 bh, .int .i64 aq, .slice af aj ac, .int .u64 bm] 0 fun c4 =>
 thenW (c4.drew) fun bt =>
 ∃ (a8 ap b3 bi bd ab : Int) (ar : Option Addr) (an ad : Nat) (bj : Int), cellsAt bt ((blk aa.heap.size).add 0) [.int .i64 a8, .int .i64 ap, .int .u64 b3, .int .i64 bi, .int .i64 bd, .int .i64 ab, .slice ar an ad, .int .u64 bj] 0 ∧
 ∃ (a0 a5 a9 aw au a3 : Int) (a4 : Option Addr) (a1 a2 : Nat) (av : Int), cellsAt bt ((blk aa.heap.size).add 8) [.int .i64 a0, .int .i64 a5, .int .u64 a9, .int .i64 aw, .int .i64 au, .int .i64 a3, .slice a4 a1 a2, .int .u64 av] 0 ∧
 Calls Try.prog 22 #[.agg #[.int .i64 a8, .int .i64 ap, .int .u64 b3, .int .i64 bi, .int .i64 bd, .int .i64 ab, .slice ar an ad, .int .u64 bj]] bt fun c5 bx => ∃ (ao b4 bg bs bn ay : Int) (b1 : Option Addr) (b2 b7 : Nat) (bq : Int), c5 = .returned (.agg #[.int .i64 ao, .int .i64 b4, .int .u64 bg, .int .i64 bs, .int .i64 bn, .int .i64 ay, .slice b1 b2 b7, .int .u64 bq]) ∧
 cellsAt bx ((blk aa.heap.size).add 8) [.int .i64 a0, .int .i64 a5, .int .u64 a9, .int .i64 aw, .int .i64 au, .int .i64 a3, .slice a4 a1 a2, .int .u64 av] 0 ∧
 Calls Try.prog 22 #[.agg #[.int .i64 a0, .int .i64 a5, .int .u64 a9, .int .i64 aw, .int .i64 au, .int .i64 a3, .slice a4 a1 a2, .int .u64 av]] bx fun c2 bw => ∃ (ai b6 bc bp bo b5 : Int) (b0 : Option Addr) (az b9 : Nat) (br : Int), c2 = .returned (.agg #[.int .i64 ai, .int .i64 b6, .int .u64 bc, .int .i64 bp, .int .i64 bo, .int .i64 b5, .slice b0 az b9, .int .u64 br]) ∧
 thenW (bw.alloc (.cells #[.int .i64 ao, .int .i64 b4, .int .u64 bg, .int .i64 bs, .int .i64 bn, .int .i64 ay, .slice b1 b2 b7, .int .u64 bq, .int .i64 ai, .int .i64 b6, .int .u64 bc, .int .i64 bp, .int .i64 bo, .int .i64 b5, .slice b0 az b9, .int .u64 br] 38)) fun c3 =>
 ∃ (bv : Option Addr) (c0 bu : Nat) (bz : World), (Builtin.append_ #[47, 47] 47 #[.slice cd cb ce, .slice (some (blk bw.heap.size)) 1 1]).run Try.prog c3 = .ok (.slice bv c0 bu) bz ∧
 ∃ c9, c9 < cc ∧ I0 c9 [.slice bv c0 bu, .int .i64 (IntKind.i64.wrap (c1 + 1))] bz

abbrev Q05.J2 (j4 j5 : Nat) (j6 : Option Addr) (R : RW) (ah : World) : Prop :=
 j6.elim False fun a8 =>
 ∃ (m9 : Option Nat), ah.cell? (a8.add 0) = some (.map m9) ∧
 Calls Try.prog 29 #[.map m9] ah fun ab ac => ∃ (a7 : Nat) (a6 a5 : Array Value), ab = .returned (.func (.func a7) a6 a5) ∧
 Calls Try.prog 28 #[.func (.func a7) a6 a5] ac fun ad ae => ∃ (a1 : Option Addr) (a0 a9 : Nat), ad = .returned (.slice a1 a0 a9) ∧
 ∃ (I0 : Nat → List Value → World → Prop) (ai : Nat), I0 ai [.slice none j4 j5, .int .i64 0] ae ∧ ∀ (ag : Nat) (aa : World) (a2 : Option Addr) (a3 a4 : Nat) (af : Int), I0 ag [.slice a2 a3 a4, .int .i64 af] aa →
 bif decide (af < (a0 : Int)) then (
 Q05.J1 a2 a3 a4 af I0 j6 ag a1 a0 R aa) else (
 R (.slice a2 a3 a4) aa)

def Q05.M (a1 : Option Addr) (R : RW) (w : World) : Prop :=
 bif Option.isNone a1 then (
 R (.slice none 0 0) w) else (
 Q05.J2 0 0 a1 R w)

theorem Q05.ok (a1 : Option Addr) {R : RW} {w : World} (h : Q05.M a1 R w) : Calls Try.prog 12 #[.pointer a1] w fun e w' => ∃ v, e = .returned v ∧ R v w' :=
  Q0m follows (H := [(0, [0, 13, 14], [(2, (.one .slice)), (15, (.one (.int .i64)))])]) (args := [.pointer a1]) (cast (by kernel_rfl) h)

def Q05.N (a1 : Option Addr) (R : RW) (w : World) : Prop :=
 (a1 = none →
 R (.slice none 0 0) w) ∧
 (a1 ≠ none →
 ∃ a3 : Addr, a1 = some a3 ∧
 ∃ (m5 : Option Nat), w.cell? (a3.add 0) = some (.map m5) ∧
 Calls Try.prog 29 #[.map m5] w fun c5 c3 => ∃ (b0 : Nat) (ba b4 : Array Value), c5 = .returned (.func (.func b0) ba b4) ∧
 Calls Try.prog 28 #[.func (.func b0) ba b4] c3 fun bs bu => ∃ (al : Option Addr) (a0 b7 : Nat), bs = .returned (.slice al a0 b7) ∧
 ∃ (I0 : Nat → List Value → World → Prop) (c4 : Nat), I0 c4 [.slice none 0 0, .int .i64 0] bu ∧ ∀ (bw : Nat) (ag : World) (a6 : Option Addr) (a5 a7 : Nat) (bc : Int), I0 bw [.slice a6 a5 a7, .int .i64 bc] ag →
 (bc < (a0 : Int) →
 ∃ bx : Addr, al = some bx ∧
 0 ≤ (bc : Int) ∧ (bc : Int) < (a0 : Int) ∧
 ∃ (bz : Int), ag.cell? (bx.add (Int.toNat bc * 1)) = some (.int .i64 bz) ∧
 ∃ (c0 : Option Nat), ag.cell? (a3.add 0) = some (.map c0) ∧
 ∃ (a2 ae ao b8 b2 ab : Int) (a8 : Option Addr) (ak aa : Nat) (b3 a4 ah aw b9 b6 af : Int) (ai : Option Addr) (ad ac : Nat) (b5 : Int), (Instr.lookup 67 (.map c0) (.int .i64 bz) false).run Try.prog ag = .ok (.agg #[.int .i64 a2, .int .i64 ae, .int .u64 ao, .int .i64 b8, .int .i64 b2, .int .i64 ab, .slice a8 ak aa, .int .u64 b3, .int .i64 a4, .int .i64 ah, .int .u64 aw, .int .i64 b9, .int .i64 b6, .int .i64 af, .slice ai ad ac, .int .u64 b5]) ag ∧
 ∀ (bd : World) (c1 : Nat), Ext no ag bd → Priv ag bd [c1] →
 Calls Try.prog 22 #[.agg #[.int .i64 a2, .int .i64 ae, .int .u64 ao, .int .i64 b8, .int .i64 b2, .int .i64 ab, .slice a8 ak aa, .int .u64 b3]] bd fun bv bn => ∃ (aj au b1 bj bf av : Int) (am : Option Addr) (az ax : Nat) (bi : Int), bv = .returned (.agg #[.int .i64 aj, .int .i64 au, .int .u64 b1, .int .i64 bj, .int .i64 bf, .int .i64 av, .slice am az ax, .int .u64 bi]) ∧
 Keep [c1] bd bn ∧
 Calls Try.prog 22 #[.agg #[.int .i64 a4, .int .i64 ah, .int .u64 aw, .int .i64 b9, .int .i64 b6, .int .i64 af, .slice ai ad ac, .int .u64 b5]] bn fun bt bp => ∃ (a9 ap bb bg bh an : Int) (ar : Option Addr) (ay aq : Nat) (bk : Int), bt = .returned (.agg #[.int .i64 a9, .int .i64 ap, .int .u64 bb, .int .i64 bg, .int .i64 bh, .int .i64 an, .slice ar ay aq, .int .u64 bk]) ∧
 ∀ (be : World) (br : Nat), Ext no bp be → Blk be br 38 [.int .i64 aj, .int .i64 au, .int .u64 b1, .int .i64 bj, .int .i64 bf, .int .i64 av, .slice am az ax, .int .u64 bi, .int .i64 a9, .int .i64 ap, .int .u64 bb, .int .i64 bg, .int .i64 bh, .int .i64 an, .slice ar ay aq, .int .u64 bk] → bp.heap.size ≤ br → br < be.heap.size →
 ∃ (bo : Option Addr) (bq bl : Nat) (bm : World), (Builtin.append_ #[47, 47] 47 #[.slice a6 a5 a7, .slice (some (blk br)) 1 1]).run Try.prog be = .ok (.slice bo bq bl) bm ∧
 (-9223372036854775808 : Int) ≤ (bc + 1) ∧ (bc + 1) < 9223372036854775808 ∧
 ∃ c2, c2 < bw ∧ I0 c2 [.slice bo bq bl, .int .i64 (bc + 1)] bm) ∧
 ((a0 : Int) ≤ bc →
 R (.slice a6 a5 a7) ag))

theorem Q05.up (a1 : Option Addr) {R : RW} {w : World} (h : Q05.N a1 R w) : Q05.M a1 R w := by
  unfold Q05.M
  unfold Q05.N at h
  refine bif_of (fun c2 => ?_) (fun c2 => ?_)
  ·have h := h.1 (Q1n c2)
   exact h
  have h := h.2 (Q1l c2)
  first | unfold Q05.J2 | skip
  obtain ⟨a3, c5, h⟩ := h
  refine Q0F c5 ?_
  obtain ⟨m5, cg, h⟩ := h
  refine ⟨m5, cg, ?_⟩
  refine h.mono fun cr cq h => ?_
  obtain ⟨b8, bb, b9, he, h⟩ := h
  refine ⟨b8, bb, b9, he, ?_⟩
  refine h.mono fun ch cj h => ?_
  obtain ⟨au, aq, an, he, h⟩ := h
  refine ⟨au, aq, an, he, ?_⟩
  obtain ⟨I0, ca, h0, h⟩ := h
  refine ⟨I0, ca, h0, fun cl ap ay b6 b1 cf hI => ?_⟩
  have h := h cl ap ay b6 b1 cf hI
  refine bif_fo (fun bz => ?_) (fun bz => ?_)
  ·have h := h.2 (Int.not_lt.1 (of_decide_eq_false bz))
   exact h
  have h := h.1 (of_decide_eq_true bz)
  first | unfold Q05.J1 | skip
  obtain ⟨cp, bq, h⟩ := h
  refine Q0F bq ?_
  obtain ⟨cc, cn, h⟩ := h
  refine ⟨cc, cn, ?_⟩
  obtain ⟨cd, bk, h⟩ := h
  refine ⟨cd, bk, ?_⟩
  refine Q0F c5 ?_
  obtain ⟨ce, bs, h⟩ := h
  refine ⟨ce, bs, ?_⟩
  obtain ⟨a2, a8, ag, ah, ak, aa, a7, ae, a6, al, a4, a5, af, ai, am, ad, a9, ac, ab, aj, bn, h⟩ := h
  refine ⟨a2, a8, ag, ah, ak, aa, a7, ae, a6, al, a4, a5, af, ai, am, ad, a9, ac, ab, aj, bn, ?_⟩
  refine Q01 fun ck c1 => ?_
  have a0 := Blk.of_new c1
  have c3 := ((Ext.refl no ap)).size
  have bw := (Ext.refl no ap).x_alloc c1
  refine Q0G (k := 0) (j := 0) a0 (by exact Nat.le_of_ble_eq_true rfl) fun bl cm co => ?_
  have bp := bw.x_puts cm (.inr c3)
  have a0 : Blk bl ap.heap.size 38 [.int .i64 a2, .int .i64 a8, .int .u64 ag, .int .i64 ah, .int .i64 ak, .int .i64 aa, .slice a7 ae a6, .int .u64 al, .int .i64 a4, .int .i64 a5, .int .u64 af, .int .i64 ai, .int .i64 am, .int .i64 ad, .slice a9 ac ab, .int .u64 aj] := co
  refine Q01 fun bu c4 => ?_
  have bm := bp.x_drew c4
  have a0 := a0.x_drew c4
  refine ⟨a2, a8, ag, ah, ak, aa, a7, ae, a6, al, ⟨a0.celli 0 rfl rfl, a0.celli 1 rfl rfl, a0.celli 2 rfl rfl, a0.celli 3 rfl rfl, a0.celli 4 rfl rfl, a0.celli 5 rfl rfl, a0.celli 6 rfl rfl, a0.celli 7 rfl rfl, trivial⟩, ?_⟩
  refine ⟨a4, a5, af, ai, am, ad, a9, ac, ab, aj, ⟨a0.celli 8 rfl rfl, a0.celli 9 rfl rfl, a0.celli 10 rfl rfl, a0.celli 11 rfl rfl, a0.celli 12 rfl rfl, a0.celli 13 rfl rfl, a0.celli 14 rfl rfl, a0.celli 15 rfl rfl, trivial⟩, ?_⟩
  have h := h bu (ap.heap.size) bm (Priv.cons c3 a0.lt Priv.nil)
  refine h.mono fun cb c9 h => ?_
  obtain ⟨ar, b5, bd, bh, be, ax, b7, b3, b0, bf, he, hk, h⟩ := h
  refine ⟨ar, b5, bd, bh, be, ax, b7, b3, b0, bf, he, ?_⟩
  have a0 := hk.blk a0 (by simp)
  refine ⟨⟨a0.celli 8 rfl rfl, a0.celli 9 rfl rfl, a0.celli 10 rfl rfl, a0.celli 11 rfl rfl, a0.celli 12 rfl rfl, a0.celli 13 rfl rfl, a0.celli 14 rfl rfl, a0.celli 15 rfl rfl, trivial⟩, ?_⟩
  refine h.mono fun ci ba h => ?_
  obtain ⟨ao, b4, bc, bj, bg, az, aw, b2, av, bi, he, h⟩ := h
  refine ⟨ao, b4, bc, bj, bg, az, aw, b2, av, bi, he, ?_⟩
  refine Q01 fun bo c0 => ?_
  have h := h bo ba.heap.size ((Ext.refl no ba).x_alloc c0) (Blk.of_new c0) ((Ext.refl no ba)).size (Q0C c0)
  obtain ⟨bt, br, bv, bx, hr, h⟩ := h
  refine ⟨bt, br, bv, bx, hr, ?_⟩
  obtain ⟨c7, c8, h⟩ := h
  try rw [w64 c7 c8]
  obtain ⟨c6, hk, h⟩ := h
  exact ⟨c6, hk, h⟩

theorem Q05.go (a1 : Option Addr) {R : RW} {w : World} (h : Q05.N a1 R w) : Calls Try.prog 12 #[.pointer a1] w fun e w' => ∃ v, e = .returned v ∧ R v w' := Q05.ok a1 (Q05.up a1 h)
theorem Q05.run (a1 : Option Addr) {V : Value} {Q : World → Prop} {w : World} (h : Q05.N a1 (fun v w' => v = V ∧ Q w') w) : Calls Try.prog 12 #[.pointer a1] w (Ret V Q) := (Q05.go a1 h).mono fun e w' ⟨v, he, hv, hq⟩ => ⟨by rw [he, hv], hq⟩

abbrev Q09.J1 (ce : Addr) (cn : Option Addr) (co : Int) (R : RW) (c5 : World) : Prop :=
 cn.elim False fun cm =>
 ∃ (cl : Option Nat), c5.cell? (cm.add 0) = some (.map cl) ∧
 ∃ (au az bn bz bt ay : Int) (bc : Option Addr) (b1 b9 : Nat) (bx aq b2 bs c1 c2 b7 : Int) (b4 : Option Addr) (aw ba : Nat) (bw : Int) (ck : Bool), (Instr.lookup 67 (.map cl) (.int .i64 co) true).run Try.prog c5 = .ok (.tuple #[.agg #[.int .i64 au, .int .i64 az, .int .u64 bn, .int .i64 bz, .int .i64 bt, .int .i64 ay, .slice bc b1 b9, .int .u64 bx, .int .i64 aq, .int .i64 b2, .int .u64 bs, .int .i64 c1, .int .i64 c2, .int .i64 b7, .slice b4 aw ba, .int .u64 bw], .bool ck]) c5 ∧
 putsK c5 ce [.int .i64 au, .int .i64 az, .int .u64 bn, .int .i64 bz, .int .i64 bt, .int .i64 ay, .slice bc b1 b9, .int .u64 bx, .int .i64 aq, .int .i64 b2, .int .u64 bs, .int .i64 c1, .int .i64 c2, .int .i64 b7, .slice b4 aw ba, .int .u64 bw] 0 fun cj =>
 thenW (cj.drew) fun cd =>
 ∃ (ar bb bi c4 c0 ax : Int) (b3 : Option Addr) (b6 b5 : Nat) (c3 : Int), cellsAt cd (ce.add 0) [.int .i64 ar, .int .i64 bb, .int .u64 bi, .int .i64 c4, .int .i64 c0, .int .i64 ax, .slice b3 b6 b5, .int .u64 c3] 0 ∧
 ∃ (ac ag av be bf ap : Int) (af : Option Addr) (am an : Nat) (bd : Int), cellsAt cd (ce.add 8) [.int .i64 ac, .int .i64 ag, .int .u64 av, .int .i64 be, .int .i64 bf, .int .i64 ap, .slice af am an, .int .u64 bd] 0 ∧
 Calls Try.prog 22 #[.agg #[.int .i64 ar, .int .i64 bb, .int .u64 bi, .int .i64 c4, .int .i64 c0, .int .i64 ax, .slice b3 b6 b5, .int .u64 c3]] cd fun ci cf => ∃ (b8 bl bv ca c7 bh : Int) (bk : Option Addr) (bm bo : Nat) (c8 : Int), ci = .returned (.agg #[.int .i64 b8, .int .i64 bl, .int .u64 bv, .int .i64 ca, .int .i64 c7, .int .i64 bh, .slice bk bm bo, .int .u64 c8]) ∧
 cellsAt cf (ce.add 8) [.int .i64 ac, .int .i64 ag, .int .u64 av, .int .i64 be, .int .i64 bf, .int .i64 ap, .slice af am an, .int .u64 bd] 0 ∧
 Calls Try.prog 22 #[.agg #[.int .i64 ac, .int .i64 ag, .int .u64 av, .int .i64 be, .int .i64 bf, .int .i64 ap, .slice af am an, .int .u64 bd]] cf fun ch cg => ∃ (b0 br bu cb cc bp : Int) (bq : Option Addr) (bg bj : Nat) (c9 : Int), ch = .returned (.agg #[.int .i64 b0, .int .i64 br, .int .u64 bu, .int .i64 cb, .int .i64 cc, .int .i64 bp, .slice bq bg bj, .int .u64 c9]) ∧
 putsK cg ce [.int .i64 b8, .int .i64 bl, .int .u64 bv, .int .i64 ca, .int .i64 c7, .int .i64 bh, .slice bk bm bo, .int .u64 c8, .int .i64 b0, .int .i64 br, .int .u64 bu, .int .i64 cb, .int .i64 cc, .int .i64 bp, .slice bq bg bj, .int .u64 c9] 0 fun c6 =>
 ∃ (a0 aa ad ak aj a3 : Int) (ab : Option Addr) (a6 a4 : Nat) (ai a1 a2 ae ao ah a8 : Int) (a7 : Option Addr) (a5 a9 : Nat) (al : Int), cellsAt c6 ce [.int .i64 a0, .int .i64 aa, .int .u64 ad, .int .i64 ak, .int .i64 aj, .int .i64 a3, .slice ab a6 a4, .int .u64 ai, .int .i64 a1, .int .i64 a2, .int .u64 ae, .int .i64 ao, .int .i64 ah, .int .i64 a8, .slice a7 a5 a9, .int .u64 al] 0 ∧
 R (.tuple #[.agg #[.int .i64 a0, .int .i64 aa, .int .u64 ad, .int .i64 ak, .int .i64 aj, .int .i64 a3, .slice ab a6 a4, .int .u64 ai, .int .i64 a1, .int .i64 a2, .int .u64 ae, .int .i64 ao, .int .i64 ah, .int .i64 a8, .slice a7 a5 a9, .int .u64 al], .bool ck]) c6

def Q09.M (a1 : Option Addr) (b9 : Int) (R : RW) (w : World) : Prop :=
 thenW (w.alloc (.cells #[.int .i64 0, .int .i64 0, .int .u64 0, .int .i64 0, .int .i64 0, .int .i64 0, .slice none 0 0, .int .u64 0, .int .i64 0, .int .i64 0, .int .u64 0, .int .i64 0, .int .i64 0, .int .i64 0, .slice none 0 0, .int .u64 0] 38)) fun b8 =>
 bif Option.isNone a1 then (
 ∃ (ag ay b1 b6 b5 ax : Int) (aw : Option Addr) (ap aj : Nat) (b4 af ar az b0 b3 ao : Int) (ah : Option Addr) (aq av : Nat) (b2 : Int), cellsAt b8 (blk w.heap.size) [.int .i64 ag, .int .i64 ay, .int .u64 b1, .int .i64 b6, .int .i64 b5, .int .i64 ax, .slice aw ap aj, .int .u64 b4, .int .i64 af, .int .i64 ar, .int .u64 az, .int .i64 b0, .int .i64 b3, .int .i64 ao, .slice ah aq av, .int .u64 b2] 0 ∧
 putsK b8 (blk w.heap.size) [.int .i64 ag, .int .i64 ay, .int .u64 b1, .int .i64 b6, .int .i64 b5, .int .i64 ax, .slice aw ap aj, .int .u64 b4, .int .i64 af, .int .i64 ar, .int .u64 az, .int .i64 b0, .int .i64 b3, .int .i64 ao, .slice ah aq av, .int .u64 b2] 0 fun b7 =>
 ∃ (a2 a8 ad ai ak a7 : Int) (a3 : Option Addr) (aa a9 : Nat) (am a0 a6 ae au an a4 : Int) (ac : Option Addr) (ab a5 : Nat) (al : Int), cellsAt b7 (blk w.heap.size) [.int .i64 a2, .int .i64 a8, .int .u64 ad, .int .i64 ai, .int .i64 ak, .int .i64 a7, .slice a3 aa a9, .int .u64 am, .int .i64 a0, .int .i64 a6, .int .u64 ae, .int .i64 au, .int .i64 an, .int .i64 a4, .slice ac ab a5, .int .u64 al] 0 ∧
 R (.tuple #[.agg #[.int .i64 a2, .int .i64 a8, .int .u64 ad, .int .i64 ai, .int .i64 ak, .int .i64 a7, .slice a3 aa a9, .int .u64 am, .int .i64 a0, .int .i64 a6, .int .u64 ae, .int .i64 au, .int .i64 an, .int .i64 a4, .slice ac ab a5, .int .u64 al], .bool false]) b7) else (
 Q09.J1 (blk w.heap.size) a1 b9 R b8)

theorem Q09.ok (a1 : Option Addr) (a0 : Int) {R : RW} {w : World} (h : Q09.M a1 a0 R w) : Calls Try.prog 13 #[.pointer a1, .int .i64 a0] w fun e w' => ∃ v, e = .returned v ∧ R v w' :=
  Q0m follows (H := []) (args := [.pointer a1, .int .i64 a0]) (cast (by kernel_rfl) h)

def Q09.N (a1 : Option Addr) (bi : Int) (R : RW) (w : World) : Prop :=
 (a1 = none →
 ∀ (bg : World), Ext no w bg →
 R (.tuple #[.agg #[.int .i64 0, .int .i64 0, .int .u64 0, .int .i64 0, .int .i64 0, .int .i64 0, .slice none 0 0, .int .u64 0, .int .i64 0, .int .i64 0, .int .u64 0, .int .i64 0, .int .i64 0, .int .i64 0, .slice none 0 0, .int .u64 0], .bool false]) bg) ∧
 (a1 ≠ none →
 ∃ a7 : Addr, a1 = some a7 ∧
 ∃ (m9 : Option Nat), w.cell? (a7.add 0) = some (.map m9) ∧
 ∀ (bd : World) (bb : Nat), Ext no w bd → Priv w bd [bb] →
 ∃ (a2 ad ah b1 az a8 : Int) (af : Option Addr) (a6 a4 : Nat) (aw a0 aa aj b0 ax ae : Int) (ac : Option Addr) (ab a3 : Nat) (av : Int) (bh : Bool), (Instr.lookup 67 (.map m9) (.int .i64 bi) true).run Try.prog bd = .ok (.tuple #[.agg #[.int .i64 a2, .int .i64 ad, .int .u64 ah, .int .i64 b1, .int .i64 az, .int .i64 a8, .slice af a6 a4, .int .u64 aw, .int .i64 a0, .int .i64 aa, .int .u64 aj, .int .i64 b0, .int .i64 ax, .int .i64 ae, .slice ac ab a3, .int .u64 av], .bool bh]) bd ∧
 ∀ (b9 : World), Ext (fun b => b = bb) bd b9 →
 Calls Try.prog 22 #[.agg #[.int .i64 a2, .int .i64 ad, .int .u64 ah, .int .i64 b1, .int .i64 az, .int .i64 a8, .slice af a6 a4, .int .u64 aw]] b9 fun be b8 => ∃ (a9 ao ay b2 b5 ak : Int) (ai : Option Addr) (an am : Nat) (b3 : Int), be = .returned (.agg #[.int .i64 a9, .int .i64 ao, .int .u64 ay, .int .i64 b2, .int .i64 b5, .int .i64 ak, .slice ai an am, .int .u64 b3]) ∧
 Keep [bb] b9 b8 ∧
 Calls Try.prog 22 #[.agg #[.int .i64 a0, .int .i64 aa, .int .u64 aj, .int .i64 b0, .int .i64 ax, .int .i64 ae, .slice ac ab a3, .int .u64 av]] b8 fun bf bc => ∃ (a5 aq au b4 b7 ap : Int) (al : Option Addr) (ar ag : Nat) (b6 : Int), bf = .returned (.agg #[.int .i64 a5, .int .i64 aq, .int .u64 au, .int .i64 b4, .int .i64 b7, .int .i64 ap, .slice al ar ag, .int .u64 b6]) ∧
 Keep [bb] b8 bc ∧
 ∀ (ba : World), Ext (fun b => b = bb) bc ba →
 R (.tuple #[.agg #[.int .i64 a9, .int .i64 ao, .int .u64 ay, .int .i64 b2, .int .i64 b5, .int .i64 ak, .slice ai an am, .int .u64 b3, .int .i64 a5, .int .i64 aq, .int .u64 au, .int .i64 b4, .int .i64 b7, .int .i64 ap, .slice al ar ag, .int .u64 b6], .bool bh]) ba)

theorem Q09.up (a1 : Option Addr) (bo : Int) {R : RW} {w : World} (h : Q09.N a1 bo R w) : Q09.M a1 bo R w := by
  unfold Q09.M
  unfold Q09.N at h
  refine Q01 fun bc e3 => ?_
  have a0 := Blk.of_new e3
  have bp := ((Ext.refl no w)).size
  have bg := (Ext.refl no w).x_alloc e3
  refine bif_of (fun c4 => ?_) (fun c4 => ?_)
  ·have h := h.1 (Q1n c4)
   refine ⟨0, 0, 0, 0, 0, 0, none, 0, 0, 0, 0, 0, 0, 0, 0, 0, none, 0, 0, 0, ⟨a0.celli 0 rfl rfl, a0.celli 1 rfl rfl, a0.celli 2 rfl rfl, a0.celli 3 rfl rfl, a0.celli 4 rfl rfl, a0.celli 5 rfl rfl, a0.celli 6 rfl rfl, a0.celli 7 rfl rfl, a0.celli 8 rfl rfl, a0.celli 9 rfl rfl, a0.celli 10 rfl rfl, a0.celli 11 rfl rfl, a0.celli 12 rfl rfl, a0.celli 13 rfl rfl, a0.celli 14 rfl rfl, a0.celli 15 rfl rfl, trivial⟩, ?_⟩
   refine Q0G (k := 0) (j := 0) a0 (by exact Nat.le_of_ble_eq_true rfl) fun bm X5 b5 => ?_
   have bw := bg.x_puts X5 (.inr bp)
   have a0 : Blk bm w.heap.size 38 [.int .i64 0, .int .i64 0, .int .u64 0, .int .i64 0, .int .i64 0, .int .i64 0, .slice none 0 0, .int .u64 0, .int .i64 0, .int .i64 0, .int .u64 0, .int .i64 0, .int .i64 0, .int .i64 0, .slice none 0 0, .int .u64 0] := b5
   refine ⟨0, 0, 0, 0, 0, 0, none, 0, 0, 0, 0, 0, 0, 0, 0, 0, none, 0, 0, 0, ⟨a0.celli 0 rfl rfl, a0.celli 1 rfl rfl, a0.celli 2 rfl rfl, a0.celli 3 rfl rfl, a0.celli 4 rfl rfl, a0.celli 5 rfl rfl, a0.celli 6 rfl rfl, a0.celli 7 rfl rfl, a0.celli 8 rfl rfl, a0.celli 9 rfl rfl, a0.celli 10 rfl rfl, a0.celli 11 rfl rfl, a0.celli 12 rfl rfl, a0.celli 13 rfl rfl, a0.celli 14 rfl rfl, a0.celli 15 rfl rfl, trivial⟩, ?_⟩
   have h := h bm bw
   exact h
  have h := h.2 (Q1l c4)
  first | unfold Q09.J1 | skip
  obtain ⟨a7, bq, h⟩ := h
  refine Q0F bq ?_
  obtain ⟨m9, br, h⟩ := h
  refine ⟨m9, (bg).cell br id, ?_⟩
  have h := h bc (w.heap.size) bg (Priv.cons bp a0.lt Priv.nil)
  obtain ⟨a3, af, ai, az, b2, a9, ae, a8, a5, ax, a2, ab, aj, b1, ay, ag, ad, ac, a4, aw, bz, bd, h⟩ := h
  refine ⟨a3, af, ai, az, b2, a9, ae, a8, a5, ax, a2, ab, aj, b1, ay, ag, ad, ac, a4, aw, bz, bd, ?_⟩
  have bf : Ext (fun b => b = w.heap.size) bc bc := ((Ext.refl no bc)).none
  refine Q0G (k := 0) (j := 0) a0 (by exact Nat.le_of_ble_eq_true rfl) fun bk bv bx => ?_
  have bh := bf.x_puts bv (.inl rfl)
  have a0 : Blk bk w.heap.size 38 [.int .i64 a3, .int .i64 af, .int .u64 ai, .int .i64 az, .int .i64 b2, .int .i64 a9, .slice ae a8 a5, .int .u64 ax, .int .i64 a2, .int .i64 ab, .int .u64 aj, .int .i64 b1, .int .i64 ay, .int .i64 ag, .slice ad ac a4, .int .u64 aw] := bx
  refine Q01 fun bl bn => ?_
  have bj := bh.x_drew bn
  have a0 := a0.x_drew bn
  refine ⟨a3, af, ai, az, b2, a9, ae, a8, a5, ax, ⟨a0.celli 0 rfl rfl, a0.celli 1 rfl rfl, a0.celli 2 rfl rfl, a0.celli 3 rfl rfl, a0.celli 4 rfl rfl, a0.celli 5 rfl rfl, a0.celli 6 rfl rfl, a0.celli 7 rfl rfl, trivial⟩, ?_⟩
  refine ⟨a2, ab, aj, b1, ay, ag, ad, ac, a4, aw, ⟨a0.celli 8 rfl rfl, a0.celli 9 rfl rfl, a0.celli 10 rfl rfl, a0.celli 11 rfl rfl, a0.celli 12 rfl rfl, a0.celli 13 rfl rfl, a0.celli 14 rfl rfl, a0.celli 15 rfl rfl, trivial⟩, ?_⟩
  have h := h bl bj
  refine h.mono fun bt c1 h => ?_
  obtain ⟨aa, ap, b0, b3, b7, al, ak, ao, an, b4, he, hk, h⟩ := h
  refine ⟨aa, ap, b0, b3, b7, al, ak, ao, an, b4, he, ?_⟩
  have a0 := hk.blk a0 (by simp)
  refine ⟨⟨a0.celli 8 rfl rfl, a0.celli 9 rfl rfl, a0.celli 10 rfl rfl, a0.celli 11 rfl rfl, a0.celli 12 rfl rfl, a0.celli 13 rfl rfl, a0.celli 14 rfl rfl, a0.celli 15 rfl rfl, trivial⟩, ?_⟩
  refine h.mono fun bu ba h => ?_
  obtain ⟨a6, ar, av, b6, b9, aq, am, au, ah, b8, he, hk, h⟩ := h
  refine ⟨a6, ar, av, b6, b9, aq, am, au, ah, b8, he, ?_⟩
  have a0 := hk.blk a0 (by simp)
  have be : Ext (fun b => b = w.heap.size) ba ba := ((Ext.refl no ba)).none
  refine Q0G (k := 0) (j := 0) a0 (by exact Nat.le_of_ble_eq_true rfl) fun bb bs c0 => ?_
  have bi := be.x_puts bs (.inl rfl)
  have a0 : Blk bb w.heap.size 38 [.int .i64 aa, .int .i64 ap, .int .u64 b0, .int .i64 b3, .int .i64 b7, .int .i64 al, .slice ak ao an, .int .u64 b4, .int .i64 a6, .int .i64 ar, .int .u64 av, .int .i64 b6, .int .i64 b9, .int .i64 aq, .slice am au ah, .int .u64 b8] := c0
  refine ⟨aa, ap, b0, b3, b7, al, ak, ao, an, b4, a6, ar, av, b6, b9, aq, am, au, ah, b8, ⟨a0.celli 0 rfl rfl, a0.celli 1 rfl rfl, a0.celli 2 rfl rfl, a0.celli 3 rfl rfl, a0.celli 4 rfl rfl, a0.celli 5 rfl rfl, a0.celli 6 rfl rfl, a0.celli 7 rfl rfl, a0.celli 8 rfl rfl, a0.celli 9 rfl rfl, a0.celli 10 rfl rfl, a0.celli 11 rfl rfl, a0.celli 12 rfl rfl, a0.celli 13 rfl rfl, a0.celli 14 rfl rfl, a0.celli 15 rfl rfl, trivial⟩, ?_⟩
  have h := h bb bi
  exact h

theorem Q09.go (a1 : Option Addr) (a0 : Int) {R : RW} {w : World} (h : Q09.N a1 a0 R w) : Calls Try.prog 13 #[.pointer a1, .int .i64 a0] w fun e w' => ∃ v, e = .returned v ∧ R v w' := Q09.ok a1 a0 (Q09.up a1 a0 h)
theorem Q09.run (a1 : Option Addr) (a0 : Int) {V : Value} {Q : World → Prop} {w : World} (h : Q09.N a1 a0 (fun v w' => v = V ∧ Q w') w) : Calls Try.prog 13 #[.pointer a1, .int .i64 a0] w (Ret V Q) := (Q09.go a1 a0 h).mono fun e w' ⟨v, he, hv, hq⟩ => ⟨by rw [he, hv], hq⟩

def Q0g.M (ay bx c5 cf cc bo : Int) (bu : Option Addr) (bg be : Nat) (cd b2 b5 bi c7 c3 b6 : Int) (aw : Option Addr) (b7 bc : Nat) (c4 ap b9 bm c6 c1 ax : Int) (b8 : Option Addr) (b1 ba : Nat) (ca ao bb bp c8 c9 b3 : Int) (b4 : Option Addr) (az b0 : Nat) (c0 : Int) (R : RW) (w : World) : Prop :=
 thenW (w.alloc (.cells #[.int .i64 ay, .int .i64 bx, .int .u64 c5, .int .i64 cf, .int .i64 cc, .int .i64 bo, .slice bu bg be, .int .u64 cd, .int .i64 b2, .int .i64 b5, .int .u64 bi, .int .i64 c7, .int .i64 c3, .int .i64 b6, .slice aw b7 bc, .int .u64 c4] 52)) fun ce =>
 thenW (ce.alloc (.cells #[.int .i64 ap, .int .i64 b9, .int .u64 bm, .int .i64 c6, .int .i64 c1, .int .i64 ax, .slice b8 b1 ba, .int .u64 ca, .int .i64 ao, .int .i64 bb, .int .u64 bp, .int .i64 c8, .int .i64 c9, .int .i64 b3, .slice b4 az b0, .int .u64 c0] 52)) fun cb =>
 ∃ (a0 am au bq bd ad : Int) (ae : Option Addr) (ag an : Nat) (bh : Int), cellsAt cb ((blk w.heap.size).add 0) [.int .i64 a0, .int .i64 am, .int .u64 au, .int .i64 bq, .int .i64 bd, .int .i64 ad, .slice ae ag an, .int .u64 bh] 0 ∧
 ∃ (a1 ac av bk bf af : Int) (ab : Option Addr) (a7 al : Nat) (br : Int), cellsAt cb ((blk ce.heap.size).add 0) [.int .i64 a1, .int .i64 ac, .int .u64 av, .int .i64 bk, .int .i64 bf, .int .i64 af, .slice ab a7 al, .int .u64 br] 0 ∧
 Calls Try.prog 30 #[.agg #[.int .i64 a0, .int .i64 am, .int .u64 au, .int .i64 bq, .int .i64 bd, .int .i64 ad, .slice ae ag an, .int .u64 bh], .agg #[.int .i64 a1, .int .i64 ac, .int .u64 av, .int .i64 bk, .int .i64 bf, .int .i64 af, .slice ab a7 al, .int .u64 br]] cb fun cg c2 => ∃ (bt : Bool), cg = .returned (.bool bt) ∧
 bif bt then (
 ∃ (a3 ak aq bl bn aj : Int) (a9 : Option Addr) (a5 ai : Nat) (bj : Int), cellsAt c2 ((blk w.heap.size).add 8) [.int .i64 a3, .int .i64 ak, .int .u64 aq, .int .i64 bl, .int .i64 bn, .int .i64 aj, .slice a9 a5 ai, .int .u64 bj] 0 ∧
 ∃ (a2 a4 ar bs bz a6 : Int) (a8 : Option Addr) (ah aa : Nat) (bv : Int), cellsAt c2 ((blk ce.heap.size).add 8) [.int .i64 a2, .int .i64 a4, .int .u64 ar, .int .i64 bs, .int .i64 bz, .int .i64 a6, .slice a8 ah aa, .int .u64 bv] 0 ∧
 Calls Try.prog 30 #[.agg #[.int .i64 a3, .int .i64 ak, .int .u64 aq, .int .i64 bl, .int .i64 bn, .int .i64 aj, .slice a9 a5 ai, .int .u64 bj], .agg #[.int .i64 a2, .int .i64 a4, .int .u64 ar, .int .i64 bs, .int .i64 bz, .int .i64 a6, .slice a8 ah aa, .int .u64 bv]] c2 fun ci ch => ∃ (bw : Bool), ci = .returned (.bool bw) ∧
 R (.bool bw) ch) else (
 R (.bool false) c2)

theorem Q0g.ok (a7 ap b2 b5 b3 al : Int) (ak : Option Addr) (am aj : Nat) (b4 ac ai ao ax av a3 : Int) (a2 : Option Addr) (af a8 : Nat) (b1 a0 a5 aq ay au a4 : Int) (ah : Option Addr) (a9 a6 : Nat) (az a1 ad an aw b0 ae : Int) (ag : Option Addr) (aa ab : Nat) (ar : Int) {R : RW} {w : World} (h : Q0g.M a7 ap b2 b5 b3 al ak am aj b4 ac ai ao ax av a3 a2 af a8 b1 a0 a5 aq ay au a4 ah a9 a6 az a1 ad an aw b0 ae ag aa ab ar R w) : Calls Try.prog 14 #[.agg #[.int .i64 a7, .int .i64 ap, .int .u64 b2, .int .i64 b5, .int .i64 b3, .int .i64 al, .slice ak am aj, .int .u64 b4, .int .i64 ac, .int .i64 ai, .int .u64 ao, .int .i64 ax, .int .i64 av, .int .i64 a3, .slice a2 af a8, .int .u64 b1], .agg #[.int .i64 a0, .int .i64 a5, .int .u64 aq, .int .i64 ay, .int .i64 au, .int .i64 a4, .slice ah a9 a6, .int .u64 az, .int .i64 a1, .int .i64 ad, .int .u64 an, .int .i64 aw, .int .i64 b0, .int .i64 ae, .slice ag aa ab, .int .u64 ar]] w fun e w' => ∃ v, e = .returned v ∧ R v w' :=
  Q0m follows (H := []) (args := [.agg #[.int .i64 a7, .int .i64 ap, .int .u64 b2, .int .i64 b5, .int .i64 b3, .int .i64 al, .slice ak am aj, .int .u64 b4, .int .i64 ac, .int .i64 ai, .int .u64 ao, .int .i64 ax, .int .i64 av, .int .i64 a3, .slice a2 af a8, .int .u64 b1], .agg #[.int .i64 a0, .int .i64 a5, .int .u64 aq, .int .i64 ay, .int .i64 au, .int .i64 a4, .slice ah a9 a6, .int .u64 az, .int .i64 a1, .int .i64 ad, .int .u64 an, .int .i64 aw, .int .i64 b0, .int .i64 ae, .slice ag aa ab, .int .u64 ar]]) (cast (by kernel_rfl) h)

def Q0g.N (a8 ar b5 b9 b6 am : Int) (al : Option Addr) (an ak : Nat) (b7 ad aj aq az ax a4 : Int) (a3 : Option Addr) (ag a9 : Nat) (b4 a0 a6 au b0 aw a5 : Int) (ai : Option Addr) (aa a7 : Nat) (b1 a1 ae ap ay b3 af : Int) (ah : Option Addr) (ab ac : Nat) (av : Int) (R : RW) (w : World) : Prop :=
 ∀ (b2 : World) (bd be : Nat), Ext no w b2 → Priv w b2 [bd, be] →
 Calls Try.prog 30 #[.agg #[.int .i64 a8, .int .i64 ar, .int .u64 b5, .int .i64 b9, .int .i64 b6, .int .i64 am, .slice al an ak, .int .u64 b7], .agg #[.int .i64 a0, .int .i64 a6, .int .u64 au, .int .i64 b0, .int .i64 aw, .int .i64 a5, .slice ai aa a7, .int .u64 b1]] b2 fun bc b8 => ∃ (a2 : Bool), bc = .returned (.bool a2) ∧
 Keep [bd, be] b2 b8 ∧
 (a2 = true →
 Calls Try.prog 30 #[.agg #[.int .i64 ad, .int .i64 aj, .int .u64 aq, .int .i64 az, .int .i64 ax, .int .i64 a4, .slice a3 ag a9, .int .u64 b4], .agg #[.int .i64 a1, .int .i64 ae, .int .u64 ap, .int .i64 ay, .int .i64 b3, .int .i64 af, .slice ah ab ac, .int .u64 av]] b8 fun bb ba => ∃ (ao : Bool), bb = .returned (.bool ao) ∧
 R (.bool ao) ba) ∧
 (a2 = false →
 R (.bool false) b8)

theorem Q0g.up (a7 ap b3 b7 b5 al : Int) (ak : Option Addr) (am aj : Nat) (b6 ac ai ao az ax a3 : Int) (a2 : Option Addr) (af a8 : Nat) (b4 a0 a5 aq b0 aw a4 : Int) (ag : Option Addr) (a9 a6 : Nat) (b1 a1 ad an ay b2 ae : Int) (ah : Option Addr) (aa ab : Nat) (av : Int) {R : RW} {w : World} (h : Q0g.N a7 ap b3 b7 b5 al ak am aj b6 ac ai ao az ax a3 a2 af a8 b4 a0 a5 aq b0 aw a4 ag a9 a6 b1 a1 ad an ay b2 ae ah aa ab av R w) : Q0g.M a7 ap b3 b7 b5 al ak am aj b6 ac ai ao az ax a3 a2 af a8 b4 a0 a5 aq b0 aw a4 ag a9 a6 b1 a1 ad an ay b2 ae ah aa ab av R w := by
  unfold Q0g.M
  unfold Q0g.N at h
  refine Q01 fun bf bg => ?_
  have ar := Blk.of_new bg
  have bl := ((Ext.refl no w)).size
  have ba := (Ext.refl no w).x_alloc bg
  refine Q01 fun bd bb => ?_
  have au := Blk.of_new bb
  have bi := (ba).size
  have bh := Nat.ne_of_lt ar.lt
  have ar := ar.x_alloc bb
  have be := ba.x_alloc bb
  refine ⟨a7, ap, b3, b7, b5, al, ak, am, aj, b6, ⟨ar.celli 0 rfl rfl, ar.celli 1 rfl rfl, ar.celli 2 rfl rfl, ar.celli 3 rfl rfl, ar.celli 4 rfl rfl, ar.celli 5 rfl rfl, ar.celli 6 rfl rfl, ar.celli 7 rfl rfl, trivial⟩, ?_⟩
  refine ⟨a0, a5, aq, b0, aw, a4, ag, a9, a6, b1, ⟨au.celli 0 rfl rfl, au.celli 1 rfl rfl, au.celli 2 rfl rfl, au.celli 3 rfl rfl, au.celli 4 rfl rfl, au.celli 5 rfl rfl, au.celli 6 rfl rfl, au.celli 7 rfl rfl, trivial⟩, ?_⟩
  have h := h bd (w.heap.size) (bf.heap.size) be (Priv.cons bl ar.lt (Priv.cons bi au.lt Priv.nil))
  refine h.mono fun bn bm h => ?_
  obtain ⟨b9, he, hk, h⟩ := h
  refine ⟨b9, he, ?_⟩
  have ar := hk.blk ar (by simp)
  have au := hk.blk au (by simp)
  refine bif_fo (fun bc => ?_) (fun bc => ?_)
  ·have h := h.2 bc
   exact h
  have h := h.1 bc
  refine ⟨ac, ai, ao, az, ax, a3, a2, af, a8, b4, ⟨ar.celli 8 rfl rfl, ar.celli 9 rfl rfl, ar.celli 10 rfl rfl, ar.celli 11 rfl rfl, ar.celli 12 rfl rfl, ar.celli 13 rfl rfl, ar.celli 14 rfl rfl, ar.celli 15 rfl rfl, trivial⟩, ?_⟩
  refine ⟨a1, ad, an, ay, b2, ae, ah, aa, ab, av, ⟨au.celli 8 rfl rfl, au.celli 9 rfl rfl, au.celli 10 rfl rfl, au.celli 11 rfl rfl, au.celli 12 rfl rfl, au.celli 13 rfl rfl, au.celli 14 rfl rfl, au.celli 15 rfl rfl, trivial⟩, ?_⟩
  refine h.mono fun bk bj h => ?_
  obtain ⟨b8, he, h⟩ := h
  refine ⟨b8, he, ?_⟩
  exact h

theorem Q0g.go (a7 ap b2 b5 b3 al : Int) (ak : Option Addr) (am aj : Nat) (b4 ac ai ao ax av a3 : Int) (a2 : Option Addr) (af a8 : Nat) (b1 a0 a5 aq ay au a4 : Int) (ah : Option Addr) (a9 a6 : Nat) (az a1 ad an aw b0 ae : Int) (ag : Option Addr) (aa ab : Nat) (ar : Int) {R : RW} {w : World} (h : Q0g.N a7 ap b2 b5 b3 al ak am aj b4 ac ai ao ax av a3 a2 af a8 b1 a0 a5 aq ay au a4 ah a9 a6 az a1 ad an aw b0 ae ag aa ab ar R w) : Calls Try.prog 14 #[.agg #[.int .i64 a7, .int .i64 ap, .int .u64 b2, .int .i64 b5, .int .i64 b3, .int .i64 al, .slice ak am aj, .int .u64 b4, .int .i64 ac, .int .i64 ai, .int .u64 ao, .int .i64 ax, .int .i64 av, .int .i64 a3, .slice a2 af a8, .int .u64 b1], .agg #[.int .i64 a0, .int .i64 a5, .int .u64 aq, .int .i64 ay, .int .i64 au, .int .i64 a4, .slice ah a9 a6, .int .u64 az, .int .i64 a1, .int .i64 ad, .int .u64 an, .int .i64 aw, .int .i64 b0, .int .i64 ae, .slice ag aa ab, .int .u64 ar]] w fun e w' => ∃ v, e = .returned v ∧ R v w' := Q0g.ok a7 ap b2 b5 b3 al ak am aj b4 ac ai ao ax av a3 a2 af a8 b1 a0 a5 aq ay au a4 ah a9 a6 az a1 ad an aw b0 ae ag aa ab ar (Q0g.up a7 ap b2 b5 b3 al ak am aj b4 ac ai ao ax av a3 a2 af a8 b1 a0 a5 aq ay au a4 ah a9 a6 az a1 ad an aw b0 ae ag aa ab ar h)
theorem Q0g.run (a7 ap b2 b5 b3 al : Int) (ak : Option Addr) (am aj : Nat) (b4 ac ai ao ax av a3 : Int) (a2 : Option Addr) (af a8 : Nat) (b1 a0 a5 aq ay au a4 : Int) (ah : Option Addr) (a9 a6 : Nat) (az a1 ad an aw b0 ae : Int) (ag : Option Addr) (aa ab : Nat) (ar : Int) {V : Value} {Q : World → Prop} {w : World} (h : Q0g.N a7 ap b2 b5 b3 al ak am aj b4 ac ai ao ax av a3 a2 af a8 b1 a0 a5 aq ay au a4 ah a9 a6 az a1 ad an aw b0 ae ag aa ab ar (fun v w' => v = V ∧ Q w') w) : Calls Try.prog 14 #[.agg #[.int .i64 a7, .int .i64 ap, .int .u64 b2, .int .i64 b5, .int .i64 b3, .int .i64 al, .slice ak am aj, .int .u64 b4, .int .i64 ac, .int .i64 ai, .int .u64 ao, .int .i64 ax, .int .i64 av, .int .i64 a3, .slice a2 af a8, .int .u64 b1], .agg #[.int .i64 a0, .int .i64 a5, .int .u64 aq, .int .i64 ay, .int .i64 au, .int .i64 a4, .slice ah a9 a6, .int .u64 az, .int .i64 a1, .int .i64 ad, .int .u64 an, .int .i64 aw, .int .i64 b0, .int .i64 ae, .slice ag aa ab, .int .u64 ar]] w (Ret V Q) := (Q0g.go a7 ap b2 b5 b3 al ak am aj b4 ac ai ao ax av a3 a2 af a8 b1 a0 a5 aq ay au a4 ah a9 a6 az a1 ad an aw b0 ae ag aa ab ar h).mono fun e w' ⟨v, he, hv, hq⟩ => ⟨by rw [he, hv], hq⟩

def Q0h.M (b4 be bm bn bo bf : Int) (b9 : Option Addr) (bh bg : Nat) (bq b6 b2 bd bl bk b1 : Int) (b3 : Option Addr) (b0 b5 : Nat) (bj : Int) (R : RW) (w : World) : Prop :=
 thenW (w.alloc (.cells #[.int .i64 b4, .int .i64 be, .int .u64 bm, .int .i64 bn, .int .i64 bo, .int .i64 bf, .slice b9 bh bg, .int .u64 bq, .int .i64 b6, .int .i64 b2, .int .u64 bd, .int .i64 bl, .int .i64 bk, .int .i64 b1, .slice b3 b0 b5, .int .u64 bj] 38)) fun bp =>
 thenW (bp.alloc (.cells #[.int .i64 0, .int .i64 0, .int .u64 0, .int .i64 0, .int .i64 0, .int .i64 0, .slice none 0 0, .int .u64 0, .int .i64 0, .int .i64 0, .int .u64 0, .int .i64 0, .int .i64 0, .int .i64 0, .slice none 0 0, .int .u64 0] 52)) fun br =>
 ∃ (ae ao ay bc bi av : Int) (aq : Option Addr) (au ap : Nat) (b8 : Int), cellsAt br ((blk w.heap.size).add 0) [.int .i64 ae, .int .i64 ao, .int .u64 ay, .int .i64 bc, .int .i64 bi, .int .i64 av, .slice aq au ap, .int .u64 b8] 0 ∧
 ∃ (aj am az ba bb aw : Int) (ax : Option Addr) (an ar : Nat) (b7 : Int), cellsAt br ((blk w.heap.size).add 8) [.int .i64 aj, .int .i64 am, .int .u64 az, .int .i64 ba, .int .i64 bb, .int .i64 aw, .slice ax an ar, .int .u64 b7] 0 ∧
 putsK br (blk bp.heap.size) [.int .i64 ae, .int .i64 ao, .int .u64 ay, .int .i64 bc, .int .i64 bi, .int .i64 av, .slice aq au ap, .int .u64 b8, .int .i64 aj, .int .i64 am, .int .u64 az, .int .i64 ba, .int .i64 bb, .int .i64 aw, .slice ax an ar, .int .u64 b7] 0 fun bs =>
 ∃ (a1 a5 ad af ah a9 : Int) (aa : Option Addr) (a8 a6 : Nat) (ak a0 a4 ac ag al a7 : Int) (ab : Option Addr) (a3 a2 : Nat) (ai : Int), cellsAt bs (blk bp.heap.size) [.int .i64 a1, .int .i64 a5, .int .u64 ad, .int .i64 af, .int .i64 ah, .int .i64 a9, .slice aa a8 a6, .int .u64 ak, .int .i64 a0, .int .i64 a4, .int .u64 ac, .int .i64 ag, .int .i64 al, .int .i64 a7, .slice ab a3 a2, .int .u64 ai] 0 ∧
 R (.agg #[.int .i64 a1, .int .i64 a5, .int .u64 ad, .int .i64 af, .int .i64 ah, .int .i64 a9, .slice aa a8 a6, .int .u64 ak, .int .i64 a0, .int .i64 a4, .int .u64 ac, .int .i64 ag, .int .i64 al, .int .i64 a7, .slice ab a3 a2, .int .u64 ai]) bs

theorem Q0h.ok (a4 a9 ag ah ai aa : Int) (a7 : Option Addr) (ac ab : Nat) (aj a6 a2 a8 af ae a1 : Int) (a3 : Option Addr) (a0 a5 : Nat) (ad : Int) {R : RW} {w : World} (h : Q0h.M a4 a9 ag ah ai aa a7 ac ab aj a6 a2 a8 af ae a1 a3 a0 a5 ad R w) : Calls Try.prog 15 #[.agg #[.int .i64 a4, .int .i64 a9, .int .u64 ag, .int .i64 ah, .int .i64 ai, .int .i64 aa, .slice a7 ac ab, .int .u64 aj, .int .i64 a6, .int .i64 a2, .int .u64 a8, .int .i64 af, .int .i64 ae, .int .i64 a1, .slice a3 a0 a5, .int .u64 ad]] w fun e w' => ∃ v, e = .returned v ∧ R v w' :=
  Q0m follows (H := []) (args := [.agg #[.int .i64 a4, .int .i64 a9, .int .u64 ag, .int .i64 ah, .int .i64 ai, .int .i64 aa, .slice a7 ac ab, .int .u64 aj, .int .i64 a6, .int .i64 a2, .int .u64 a8, .int .i64 af, .int .i64 ae, .int .i64 a1, .slice a3 a0 a5, .int .u64 ad]]) (cast (by kernel_rfl) h)

def Q0h.N (a4 a9 ag ah ai aa : Int) (a7 : Option Addr) (ac ab : Nat) (aj a6 a2 a8 af ae a1 : Int) (a3 : Option Addr) (a0 a5 : Nat) (ad : Int) (R : RW) (w : World) : Prop :=
 ∀ (ak : World), Ext no w ak →
 R (.agg #[.int .i64 a4, .int .i64 a9, .int .u64 ag, .int .i64 ah, .int .i64 ai, .int .i64 aa, .slice a7 ac ab, .int .u64 aj, .int .i64 a6, .int .i64 a2, .int .u64 a8, .int .i64 af, .int .i64 ae, .int .i64 a1, .slice a3 a0 a5, .int .u64 ad]) ak

theorem Q0h.up (a4 a9 ag ah ai aa : Int) (a7 : Option Addr) (ac ab : Nat) (aj a6 a2 a8 af ae a1 : Int) (a3 : Option Addr) (a0 a5 : Nat) (ad : Int) {R : RW} {w : World} (h : Q0h.N a4 a9 ag ah ai aa a7 ac ab aj a6 a2 a8 af ae a1 a3 a0 a5 ad R w) : Q0h.M a4 a9 ag ah ai aa a7 ac ab aj a6 a2 a8 af ae a1 a3 a0 a5 ad R w := by
  unfold Q0h.M
  unfold Q0h.N at h
  refine Q01 fun ap au => ?_
  have ak := Blk.of_new au
  have b0 := ((Ext.refl no w)).size
  have am := (Ext.refl no w).x_alloc au
  refine Q01 fun az ar => ?_
  have al := Blk.of_new ar
  have aw := (am).size
  have av := Nat.ne_of_lt ak.lt
  have ak := ak.x_alloc ar
  have ao := am.x_alloc ar
  refine ⟨a4, a9, ag, ah, ai, aa, a7, ac, ab, aj, ⟨ak.celli 0 rfl rfl, ak.celli 1 rfl rfl, ak.celli 2 rfl rfl, ak.celli 3 rfl rfl, ak.celli 4 rfl rfl, ak.celli 5 rfl rfl, ak.celli 6 rfl rfl, ak.celli 7 rfl rfl, trivial⟩, ?_⟩
  refine ⟨a6, a2, a8, af, ae, a1, a3, a0, a5, ad, ⟨ak.celli 8 rfl rfl, ak.celli 9 rfl rfl, ak.celli 10 rfl rfl, ak.celli 11 rfl rfl, ak.celli 12 rfl rfl, ak.celli 13 rfl rfl, ak.celli 14 rfl rfl, ak.celli 15 rfl rfl, trivial⟩, ?_⟩
  refine Q0G (k := 0) (j := 0) al (by exact Nat.le_of_ble_eq_true rfl) fun an ax ay => ?_
  have aq := ao.x_puts ax (.inr aw)
  have al : Blk an ap.heap.size 52 [.int .i64 a4, .int .i64 a9, .int .u64 ag, .int .i64 ah, .int .i64 ai, .int .i64 aa, .slice a7 ac ab, .int .u64 aj, .int .i64 a6, .int .i64 a2, .int .u64 a8, .int .i64 af, .int .i64 ae, .int .i64 a1, .slice a3 a0 a5, .int .u64 ad] := ay
  refine ⟨a4, a9, ag, ah, ai, aa, a7, ac, ab, aj, a6, a2, a8, af, ae, a1, a3, a0, a5, ad, ⟨al.celli 0 rfl rfl, al.celli 1 rfl rfl, al.celli 2 rfl rfl, al.celli 3 rfl rfl, al.celli 4 rfl rfl, al.celli 5 rfl rfl, al.celli 6 rfl rfl, al.celli 7 rfl rfl, al.celli 8 rfl rfl, al.celli 9 rfl rfl, al.celli 10 rfl rfl, al.celli 11 rfl rfl, al.celli 12 rfl rfl, al.celli 13 rfl rfl, al.celli 14 rfl rfl, al.celli 15 rfl rfl, trivial⟩, ?_⟩
  have h := h an aq
  exact h

theorem Q0h.go (a4 a9 ag ah ai aa : Int) (a7 : Option Addr) (ac ab : Nat) (aj a6 a2 a8 af ae a1 : Int) (a3 : Option Addr) (a0 a5 : Nat) (ad : Int) {R : RW} {w : World} (h : Q0h.N a4 a9 ag ah ai aa a7 ac ab aj a6 a2 a8 af ae a1 a3 a0 a5 ad R w) : Calls Try.prog 15 #[.agg #[.int .i64 a4, .int .i64 a9, .int .u64 ag, .int .i64 ah, .int .i64 ai, .int .i64 aa, .slice a7 ac ab, .int .u64 aj, .int .i64 a6, .int .i64 a2, .int .u64 a8, .int .i64 af, .int .i64 ae, .int .i64 a1, .slice a3 a0 a5, .int .u64 ad]] w fun e w' => ∃ v, e = .returned v ∧ R v w' := Q0h.ok a4 a9 ag ah ai aa a7 ac ab aj a6 a2 a8 af ae a1 a3 a0 a5 ad (Q0h.up a4 a9 ag ah ai aa a7 ac ab aj a6 a2 a8 af ae a1 a3 a0 a5 ad h)
theorem Q0h.run (a4 a9 ag ah ai aa : Int) (a7 : Option Addr) (ac ab : Nat) (aj a6 a2 a8 af ae a1 : Int) (a3 : Option Addr) (a0 a5 : Nat) (ad : Int) {V : Value} {Q : World → Prop} {w : World} (h : Q0h.N a4 a9 ag ah ai aa a7 ac ab aj a6 a2 a8 af ae a1 a3 a0 a5 ad (fun v w' => v = V ∧ Q w') w) : Calls Try.prog 15 #[.agg #[.int .i64 a4, .int .i64 a9, .int .u64 ag, .int .i64 ah, .int .i64 ai, .int .i64 aa, .slice a7 ac ab, .int .u64 aj, .int .i64 a6, .int .i64 a2, .int .u64 a8, .int .i64 af, .int .i64 ae, .int .i64 a1, .slice a3 a0 a5, .int .u64 ad]] w (Ret V Q) := (Q0h.go a4 a9 ag ah ai aa a7 ac ab aj a6 a2 a8 af ae a1 a3 a0 a5 ad h).mono fun e w' ⟨v, he, hv, hq⟩ => ⟨by rw [he, hv], hq⟩
set_option maxRecDepth 20000
open W (OwnB GivesW numR countR doneR zig unzig intR)
section
variable {w w' : World} {o o' : Own} {k j n : Nat} {K : Nat → Prop} {S : OS} {a b c d : Ent} {aa ba ca da : Option Addr} {ac bc cc dc : Nat}
structure PP where
  x : PE
  y : PE
def PP.C (p : PP) : List Value := p.x.C ++ p.y.C
def PP.v (p : PP) : Value := prfV p.x.e p.x.a p.x.c p.y.e p.y.a p.y.c
def PP.p (p : PP) : Ent × Ent := (p.x.e, p.y.e)
def PP.Cs (l : List PP) : List Value := l.flatMap PP.C
theorem PP.len (p : PP) : p.C.length = 16 := rfl
def PP.ok (w : World) (o : Own) (p : PP) : Prop := Row w o p.x.a (bytesV p.x.e.body) ∧ Row w o p.y.a (bytesV p.y.e.body) ∧ p.x.e.body.length ≤ p.x.c ∧ p.y.e.body.length ≤ p.y.c
theorem PP.ok.step {p : PP} (h : p.ok w o) (s : Step K w o w' o') : p.ok w' o' := ⟨h.1.step s, h.2.1.step s, h.2.2⟩
theorem PP.one (p : PP) : ∀ u ∈ p.C, u.oneCell' = true := fun u hu => (List.mem_append.1 hu).elim (PE.one _ u) (PE.one _ u)
theorem PP.Cs_length (l : List PP) : (PP.Cs l).length = l.length * 16 := Q1X PP.len l
theorem PP.Cs_set {l : List PP} {i : Nat} (x : PP) (h : i < l.length) : setAll (PP.Cs l) (i * 16) x.C = PP.Cs (l.set i x) := Q2h (f := PP.C) (n := 16) PP.len x h
def zz : Ent × Ent := (Ent.zero, Ent.zero)
theorem Q3m : Calls Try.prog 15 #[prfV a aa ac b ba bc] w (Ret (prfV a aa ac b ba bc) fun w' => Ext no w w') := by
  refine Q0h.run a.w a.i a.pv a.t a.tw a.ep aa a.body.length ac a.sg b.w b.i b.pv b.t b.tw b.ep ba b.body.length bc b.sg ?_
  unfold Q0h.N
  exact fun w19 X => ⟨rfl, X⟩
theorem Q3f (ha : RowAt w aa (bytesV a.body)) (hb : RowAt w ba (bytesV b.body)) (hc : RowAt w ca (bytesV c.body)) (hd : RowAt w da (bytesV d.body)) (la : a.body.length < 1000000) (lb : b.body.length < 1000000) :
    Calls Try.prog 14 #[prfV a aa ac b ba bc, prfV c ca cc d da dc] w (Ret (.bool (decide ((a, b) = (c, d)))) fun w' => Ext no w w') := by
  refine Q0g.run a.w a.i a.pv a.t a.tw a.ep aa a.body.length ac a.sg b.w b.i b.pv b.t b.tw b.ep ba b.body.length bc b.sg c.w c.i c.pv c.t c.tw c.ep ca c.body.length cc c.sg d.w d.i d.pv d.t d.tw d.ep da d.body.length dc d.sg ?_
  unfold Q0g.N
  intro w34 p35 p36 X34 hp
  refine (Q2c (e := a) (f := c) (ha.no X34) (hc.no X34) la).mono fun x w39 ⟨he, X39⟩ => ⟨_, he, X39.kept, fun h => ?_, fun h => ?_⟩
  · have h := of_decide_eq_true h
    have X := X34.trans X39
    refine (Q2c (e := b) (f := d) (hb.no X) (hd.no X) lb).mono fun x w43 ⟨he, X43⟩ => ⟨_, he, ?_, X.trans X43⟩
    congr 1; rw [decide_eq_decide]; exact ⟨fun q => by rw [h, q], fun q => (Prod.mk.inj q).2⟩
  · have h := of_decide_eq_false h
    exact ⟨by rw [decide_eq_false (fun q => h (Prod.mk.inj q).1)], X34.trans X39⟩
def Slim (l : List (Int × (Ent × Ent))) : Prop := ∀ q ∈ l, q.2.1.body.length ≤ 1000000 ∧ q.2.2.body.length ≤ 1000000
theorem Q2Z {l : List (Int × (Ent × Ent))} {x : Int} {p : Ent × Ent} (h : alook l x = some p) : (x, p) ∈ l := by
  induction l with
  | nil => cases h
  | cons q r ih =>
    simp only [alook] at h
    by_cases hq : q.1 = x
    · rw [if_pos hq] at h; cases h; subst hq; exact List.mem_cons_self
    · rw [if_neg hq] at h; exact List.mem_cons_of_mem _ (ih h)
theorem Slim.at {l : List (Int × (Ent × Ent))} (h : Slim l) (x : Int) : ((alook l x).getD zz).1.body.length ≤ 1000000 ∧ ((alook l x).getD zz).2.body.length ≤ 1000000 := by
  cases hx : alook l x with
  | none => exact ⟨Nat.zero_le _, Nat.zero_le _⟩
  | some p => exact h _ (Q2Z hx)
theorem PrfL.find {l : List (Int × (Ent × Ent))} {lv : List (Int × Value)} (h5 : PrfL w o l lv) (x : Int) : ∃ (xa : Option Addr) (xc : Nat) (ya : Option Addr) (yc : Nat), ((mlook lv x).getD (.agg #[.int .i64 0, .int .i64 0, .int .u64 0, .int .i64 0, .int .i64 0, .int .i64 0, .slice none 0 0, .int .u64 0, .int .i64 0, .int .i64 0, .int .u64 0, .int .i64 0, .int .i64 0, .int .i64 0, .slice none 0 0, .int .u64 0])) = prfV ((alook l x).getD zz).1 xa xc ((alook l x).getD zz).2 ya yc ∧ (mlook lv x).isSome = (alook l x).isSome ∧ Row w o xa (bytesV ((alook l x).getD zz).1.body) ∧ Row w o ya (bytesV ((alook l x).getD zz).2.body) := by
  rcases h5.look x with ⟨e1, e2⟩ | ⟨s, v, e1, e2, xa, xc, ya, yc, e3, e4, e5, _⟩
  · rw [e1, e2]; exact ⟨none, 0, none, 0, rfl, rfl, Row.nil _ _ _, Row.nil _ _ _⟩
  · rw [e1, e2]; exact ⟨xa, xc, ya, yc, e3, rfl, e4, e5⟩
theorem Of_spec {l : List (Int × (Ent × Ent))} (A : Alm w o j l) (ok : Tags w o) (hs : Slim l) (x : Int) :
    Calls Try.prog 13 #[.pointer (some (blk j)), .int .i64 x] w (fun e w' => ∃ (o' : Own) (p : PP), e = .returned (.tuple #[p.v, .bool (alook l x).isSome]) ∧ Step no w o w' o' ∧ p.p = (alook l x).getD zz ∧ p.ok w' o') := by
  refine (Q09.go (some (blk j)) x (R := fun v w' => ∃ (o' : Own) (p : PP), v = (.tuple #[p.v, .bool (alook l x).isSome]) ∧ Step no w o w' o' ∧ p.p = (alook l x).getD zz ∧ p.ok w' o') ?_).mono fun e w' ⟨v, he, o', p, hv, hw⟩ => ⟨o', p, by rw [he, hv], hw⟩
  obtain ⟨_, q, lv, h1, h2, h3, h4, h5⟩ := id A
  unfold Q09.N
  refine ⟨fun h => (by cases h), fun _ => ⟨_, rfl, some q, h1.cella (i := 0) rfl, fun w3 p10 X3 hp => ?_⟩⟩
  obtain ⟨s3, M3⟩ := Step.priv X3 hp ok
  have g10 := hp p10 (by simp)
  obtain ⟨i, hi, hz, hsz, hby⟩ := info_of inf38
  have hlk := (h2.ext X3 id).lookup (Q1v (k := .i64) Try.underlying3) Try.underlying67 hi hz x true
  obtain ⟨xa, xc, ya, yc, key, kis, rx, ry⟩ := h5.find x
  obtain ⟨lx, ly⟩ := hs.at x
  generalize (alook l x).getD zz = pr at *
  obtain ⟨u, v⟩ := pr
  dsimp only at key rx ry lx ly
  rw [if_pos rfl, key, kis] at hlk
  refine ⟨u.w, u.i, u.pv, u.t, u.tw, u.ep, xa, u.body.length, xc, u.sg, v.w, v.i, v.pv, v.t, v.tw, v.ep, ya, v.body.length, yc, v.sg, (alook l x).isSome, hlk, fun w30 X30 => ?_⟩
  have s30' := Step.stores X30 s3.ok M3 (by simp)
  have s30 := s3.trans' s30' fun i hi => .inr (by simp at hi; omega)
  have M30 := M3.step s30'
  refine (Q0W (e := u) s30.ok (rx.step s30) lx).mono fun e w40 ⟨o40, ca, cc, he, s40', rc, lc⟩ => ⟨_, _, _, _, _, _, _, _, _, _, he, M30.keep s40' (fun _ _ => id), ?_⟩
  have s40 := s30.trans s40'
  have M40 := M30.step s40'
  refine (Q0W (e := v) s40.ok (ry.step s40) ly).mono fun e w50 ⟨o50, da, dc, he, s50', rd, ld⟩ => ⟨_, _, _, _, _, _, _, _, _, _, he, M40.keep s50' (fun _ _ => id), fun w51 X51 => ?_⟩
  have s50 := s40.trans s50'
  have s51' := Step.stores X51 s50.ok (M40.step s50') (by simp)
  have s51 := s50.trans' s51' fun i hi => .inr (by simp at hi; omega)
  exact ⟨_, ⟨⟨u, ca, cc⟩, ⟨v, da, dc⟩⟩, rfl, s51, rfl, (rc.step s50').step s51', rd.step s51', lc, ld⟩
theorem Of_nil (x : Int) : Calls Try.prog 13 #[.pointer none, .int .i64 x] w (Ret (.tuple #[prfV Ent.zero none 0 Ent.zero none 0, .bool false]) fun w' => Ext no w w') := by
  refine Q09.run none x ?_
  unfold Q09.N
  exact ⟨fun _ w5 X => ⟨rfl, X⟩, fun h => absurd rfl h⟩
theorem Q3M : Calls Try.prog 12 #[.pointer none] w (Ret (.slice none 0 0) fun w' => w' = w) := by
  refine Q05.run none ?_
  unfold Q05.N
  exact ⟨fun _ => ⟨rfl, rfl⟩, fun h => absurd rfl h⟩
theorem On_nil : Calls Try.prog 16 #[.pointer none] w (Ret (.bool false) fun w' => w' = w) := by
  refine Q0c.run none ?_
  unfold Q0c.N
  exact ⟨fun h => absurd rfl h, fun _ => ⟨rfl, rfl⟩⟩
theorem Q47 (p : Int) (ko : Option Addr) : Calls Try.prog 10 #[.pointer none, .pointer ko, .int .u64 p, prfV a aa ac b ba bc] w (Ret (.int .i64 23) fun w' => Ext no w w') := by
  refine Q04.run none ko p a.w a.i a.pv a.t a.tw a.ep aa a.body.length ac a.sg b.w b.i b.pv b.t b.tw b.ep ba b.body.length bc b.sg ?_
  unfold Q04.N
  exact ⟨fun _ w20 X => ⟨rfl, X⟩, fun h => absurd rfl h⟩
end
end Go.Proofs.Ytebghegecofmhaa
set_option maxHeartbeats 4000000
namespace Go.Proofs.Ytebghegecofmhaa
open Go Go.Mx Go.Proofs Go.Shelf
def kA_ren : Go.Shelf.Ren := ⟨fun | 7 => 29 | 10 => 39 | n => n, fun | 23 => 67 | 26 => 3 | 3 => 38 | 28 => 82 | 0 => 0 | 27 => 81 | 33 => 93 | 4 => 4 | n => n, fun | n => n⟩
theorem kA : Go.Proofs.SlLaysZI.n7 Try.prog kA_ren := {
  mixed := by kernel_rfl
  f7 := ⟨Try.f29.name, by decide, Try.func29.trans (congrArg some (by kernel_rfl))⟩
  f10 := ⟨Try.f39.name, by decide, Try.func39.trans (congrArg some (by kernel_rfl))⟩
  t0 := Try.underlying0
  a0 := Try.isAgg0
  z0 := Try.sizeOf0
  v0 := Try.zeroValue0
  t4 := Try.underlying4
  a4 := Try.isAgg4
  z4 := Try.sizeOf4
  v4 := Try.zeroValue4
  t23 := Try.underlying67
  a23 := Try.isAgg67
  z23 := Try.sizeOf67
  v23 := Try.zeroValue67
  t26 := Try.underlying3
  a26 := Try.isAgg3
  z26 := Try.sizeOf3
  v26 := Try.zeroValue3
  t27 := Try.underlying81
  a27 := Try.isAgg81
  z27 := Try.sizeOf81
  v27 := Try.zeroValue81
  t28 := Try.underlying82
  a28 := Try.isAgg82
  z28 := Try.sizeOf82
  v28 := Try.zeroValue82
  t33 := Try.underlying93
  a33 := Try.isAgg93
  z33 := Try.sizeOf93
  v33 := Try.zeroValue93 }
def sA_ren : Go.Shelf.Ren := ⟨fun | 6 => 28 | 8 => 37 | 9 => 38 | 11 => 48 | 13 => 50 | 12 => 49 | 23 => 62 | 24 => 63 | 14 => 53 | 15 => 54 | 16 => 55 | 17 => 56 | 18 => 57 | 19 => 58 | 20 => 59 | 21 => 60 | 22 => 61 | 25 => 64 | 26 => 65 | 27 => 66 | 28 => 67 | 29 => 68 | 30 => 69 | 31 => 70 | n => n, fun | 26 => 3 | 28 => 82 | 24 => 23 | 0 => 0 | 3 => 3 | 37 => 106 | 48 => 119 | 50 => 27 | 4 => 4 | 40 => 111 | 39 => 110 | 45 => 116 | 5 => 5 | 9 => 9 | 51 => 121 | 55 => 124 | 57 => 126 | 58 => 127 | 33 => 93 | n => n, fun | n => n⟩
theorem sA : Go.Proofs.SlLaysZI.n6 Try.prog sA_ren := {
  mixed := by kernel_rfl
  f6 := ⟨Try.f28.name, by decide, Try.func28.trans (congrArg some (by kernel_rfl))⟩
  f8 := ⟨Try.f37.name, by decide, Try.func37.trans (congrArg some (by kernel_rfl))⟩
  f11 := ⟨Try.f48.name, by decide, Try.func48.trans (congrArg some (by kernel_rfl))⟩
  t0 := Try.underlying0
  a0 := Try.isAgg0
  z0 := Try.sizeOf0
  v0 := Try.zeroValue0
  t24 := Try.underlying23
  a24 := Try.isAgg23
  z24 := Try.sizeOf23
  v24 := Try.zeroValue23
  t26 := Try.underlying3
  a26 := Try.isAgg3
  z26 := Try.sizeOf3
  v26 := Try.zeroValue3
  t28 := Try.underlying82
  a28 := Try.isAgg82
  z28 := Try.sizeOf82
  v28 := Try.zeroValue82
  i26 := by kernel_rfl }
def tA_ren : Go.Shelf.Ren := ⟨fun | 5 => 38 | 8 => 50 | 7 => 49 | 19 => 62 | 20 => 63 | 10 => 53 | 11 => 54 | 12 => 55 | 13 => 56 | 14 => 57 | 15 => 58 | 16 => 59 | 17 => 60 | 18 => 61 | 30 => 64 | 31 => 65 | 32 => 66 | 33 => 67 | 34 => 68 | 35 => 69 | 40 => 70 | n => n, fun | 23 => 23 | 25 => 3 | 3 => 3 | 32 => 106 | 22 => 23 | 0 => 0 | 44 => 119 | 46 => 27 | 4 => 4 | 36 => 111 | 35 => 110 | 41 => 116 | 5 => 5 | 9 => 9 | 53 => 121 | 57 => 124 | 63 => 126 | 64 => 127 | n => n, fun | n => n⟩
theorem tA : Go.Proofs.SlLaysM.n5 Try.prog tA_ren := {
  mixed := by kernel_rfl
  f5 := ⟨Try.f38.name, by decide, Try.func38.trans (congrArg some (by kernel_rfl))⟩
  f7 := ⟨Try.f49.name, by decide, Try.func49.trans (congrArg some (by kernel_rfl))⟩
  f8 := Try.func50.trans (congrArg some (by kernel_rfl))
  f10 := ⟨Try.f53.name, by decide, Try.func53.trans (congrArg some (by kernel_rfl))⟩
  f11 := ⟨Try.f54.name, by decide, Try.func54.trans (congrArg some (by kernel_rfl))⟩
  f12 := ⟨Try.f55.name, by decide, Try.func55.trans (congrArg some (by kernel_rfl))⟩
  f13 := ⟨Try.f56.name, by decide, Try.func56.trans (congrArg some (by kernel_rfl))⟩
  f14 := ⟨Try.f57.name, by decide, Try.func57.trans (congrArg some (by kernel_rfl))⟩
  f15 := ⟨Try.f58.name, by decide, Try.func58.trans (congrArg some (by kernel_rfl))⟩
  f16 := ⟨Try.f59.name, by decide, Try.func59.trans (congrArg some (by kernel_rfl))⟩
  f17 := ⟨Try.f60.name, by decide, Try.func60.trans (congrArg some (by kernel_rfl))⟩
  f18 := ⟨Try.f61.name, by decide, Try.func61.trans (congrArg some (by kernel_rfl))⟩
  f19 := Try.func62.trans (congrArg some (by kernel_rfl))
  f20 := Try.func63.trans (congrArg some (by kernel_rfl))
  f30 := ⟨Try.f64.name, by decide, Try.func64.trans (congrArg some (by kernel_rfl))⟩
  f31 := Try.func65.trans (congrArg some (by kernel_rfl))
  f32 := Try.func66.trans (congrArg some (by kernel_rfl))
  f33 := ⟨Try.f67.name, by decide, Try.func67.trans (congrArg some (by kernel_rfl))⟩
  f34 := ⟨Try.f68.name, by decide, Try.func68.trans (congrArg some (by kernel_rfl))⟩
  f35 := ⟨Try.f69.name, by decide, Try.func69.trans (congrArg some (by kernel_rfl))⟩
  f40 := ⟨Try.f70.name, by decide, Try.func70.trans (congrArg some (by kernel_rfl))⟩
  t0 := Try.underlying0
  a0 := Try.isAgg0
  z0 := Try.sizeOf0
  v0 := Try.zeroValue0
  t3 := Try.underlying3
  a3 := Try.isAgg3
  z3 := Try.sizeOf3
  v3 := Try.zeroValue3
  t4 := Try.underlying4
  a4 := Try.isAgg4
  z4 := Try.sizeOf4
  v4 := Try.zeroValue4
  t5 := Try.underlying5
  a5 := Try.isAgg5
  z5 := Try.sizeOf5
  v5 := Try.zeroValue5
  t9 := Try.underlying9
  a9 := Try.isAgg9
  z9 := Try.sizeOf9
  v9 := Try.zeroValue9
  t22 := Try.underlying23
  a22 := Try.isAgg23
  z22 := Try.sizeOf23
  v22 := Try.zeroValue23
  t23 := Try.underlying23
  a23 := Try.isAgg23
  z23 := Try.sizeOf23
  v23 := Try.zeroValue23
  t25 := Try.underlying3
  a25 := Try.isAgg3
  z25 := Try.sizeOf3
  v25 := Try.zeroValue3
  t32 := Try.underlying106
  a32 := Try.isAgg106
  z32 := Try.sizeOf106
  v32 := Try.zeroValue106
  t35 := Try.underlying110
  a35 := Try.isAgg110
  z35 := Try.sizeOf110
  v35 := Try.zeroValue110
  t36 := Try.underlying111
  a36 := Try.isAgg111
  z36 := Try.sizeOf111
  v36 := Try.zeroValue111
  t41 := Try.underlying116
  a41 := Try.isAgg116
  z41 := Try.sizeOf116
  v41 := Try.zeroValue116
  t44 := Try.underlying119
  a44 := Try.isAgg119
  z44 := Try.sizeOf119
  v44 := Try.zeroValue119
  t46 := Try.underlying27
  a46 := Try.isAgg27
  z46 := Try.sizeOf27
  v46 := Try.zeroValue27
  t53 := Try.underlying121
  a53 := Try.isAgg121
  z53 := Try.sizeOf121
  v53 := Try.zeroValue121
  t57 := Try.underlying124
  a57 := Try.isAgg124
  z57 := Try.sizeOf124
  v57 := Try.zeroValue124
  t63 := Try.underlying126
  a63 := Try.isAgg126
  z63 := Try.sizeOf126
  v63 := Try.zeroValue126
  t64 := Try.underlying127
  a64 := Try.isAgg127
  z64 := Try.sizeOf127
  v64 := Try.zeroValue127 }
theorem sortsA (m : Nat) : AnyZI.SortsIn Try.prog sA_ren Fence.wide m :=
  ⟨fun blk off cap ss W hH hblk hsz => callsIn_wide.2 (AnyM.slices_Sort_int tA blk off cap ss W hH hblk hsz), fun p cap W => callsIn_wide.2 (AnyM.slices_Sort_int_none tA p cap W)⟩
theorem Q2I (q : Nat) (w : World) : Calls Try.prog 29 #[.map (some q)] w fun e w' => e = .returned (.func (.func 39) #[] #[.pointer (some (blk w.heap.size))]) ∧ w' = w.alloc (.cells #[.map (some q)] 67) :=
  (callsIn_wide (n := 5)).1 (AnyZI.keys_in kA Fence.wide 5 trivial rfl (some q) w)
def plainK (_ : Value) : Option (DataW Unit × List MemPlace) := some (.nil, [])
def numV : Value → Int
  | .int _ a => a
  | _ => 0
theorem Q3b {x : Int} (h : 0 ≤ x ∧ x < 8) : Go.keyOf Try.prog 3 (i64V x) = some (.int .i64 x) := by
  have hw : (Lit.int .i64 x).wf = true := by simp [Lit.wf, IntKind.min, IntKind.max, IntKind.signed, IntKind.bits]; omega
  simp [Go.keyOf, i64V, Try.underlying3, mapKey, hw]
def sortedK {α : Type} (l : List (Int × α)) : List Int := (l.map (·.1)).mergeSort leI
theorem Q3S {w : World} {q : Nat} {lv : List (Int × Value)} (h : MapIs w q i64V lv) (hnd : (lv.map (·.1)).Nodup) (hk : ∀ p ∈ lv, 0 ≤ p.1 ∧ p.1 < 8) (hl : lv.length ≤ 1000000) :
    ∃ D : DataW Unit, w.ownsMap Try.prog 3 plainK q lv.length D ∧ Maps.size D = lv.length ∧ (intKeys D).Perm (lv.map (·.1)) := by
  obtain ⟨es, clock, hb, hm, hp, hc⟩ := h
  have hsz : es.size = lv.length := by have := congrArg List.length hm; simpa using this
  have hkeys : es.toList.map (·.key) = lv.map fun p => i64V p.1 := by
    have := congrArg (List.map Prod.fst) hm
    simpa [List.map_map, Function.comp_def] using this
  have hrd : ∀ x ∈ es.toList, ∃ n : Int, 0 ≤ n ∧ n < 8 ∧ x.key = i64V n := fun x hx => by
    have : x.key ∈ lv.map fun p => i64V p.1 := by rw [← hkeys]; exact List.mem_map_of_mem hx
    obtain ⟨p, hp, he⟩ := List.mem_map.1 this
    exact ⟨p.1, (hk p hp).1, (hk p hp).2, he.symm⟩
  have hrd2 : ∀ x ∈ es.toList, WideElems.rd Try.prog 3 plainK x = some (.int .i64 (numV x.key), .nil) := fun x hx => by
    obtain ⟨n, h0, h8, he⟩ := hrd x hx
    unfold WideElems.rd
    rw [he, Q3b ⟨h0, h8⟩]; rfl
  refine ⟨_, ⟨es, clock, hb, ⟨by rw [hsz]; unfold maxLen; omega, ⟨hc, ?_, ?_⟩, fun x hx => ⟨_, hrd2 x hx⟩⟩, by omega, rfl⟩, ?_, ?_⟩
  · exact hp.imp fun h e => by omega
  · rw [hkeys]
    have : (lv.map fun p => i64V p.1) = (lv.map (·.1)).map i64V := by simp [List.map_map, Function.comp_def]
    rw [this]
    exact List.pairwise_map.2 (hnd.imp fun h e => h (by injection e))
  · rw [Maps.size_eq, (WideShapes.sorted_perm _).length_eq, List.length_map]; simpa using hsz
  · have e1 : (es.toList.map fun x => Go.intOf (WideElems.rg Try.prog 3 plainK x).1) = lv.map (·.1) := by
      have : (es.toList.map fun x => Go.intOf (WideElems.rg Try.prog 3 plainK x).1) = (es.toList.map (·.key)).map numV := by
        rw [List.map_map]
        refine List.map_congr_left fun x hx => ?_
        unfold WideElems.rg
        rw [hrd2 x hx]; rfl
      rw [this, hkeys, List.map_map]; rfl
    have := ((WideShapes.sorted_perm (es.toList.map (WideElems.rg Try.prog 3 plainK))).map fun p => Go.intOf p.1)
    rw [List.map_map] at this
    rw [← e1]; exact this
theorem Q2e {w : World} {q : Nat} {lv : List (Int × Value)} (h : MapIs w q i64V lv) (hnd : (lv.map (·.1)).Nodup) (hk : ∀ p ∈ lv, 0 ≤ p.1 ∧ p.1 < 8) (hl : lv.length ≤ 1000000) :
    Calls Try.prog 28 #[.func (.func 39) #[] #[.pointer (some (blk w.heap.size))]] (w.alloc (.cells #[.map (some q)] 67))
      fun e w' => ∃ a c, e = .returned (.slice a lv.length c) ∧ RowAt w' a ((sortedK lv).map i64V) ∧ (∀ ad, a = some ad → w.heap.size ≤ ad.block) ∧ Ext no w w' := by
  obtain ⟨D, hown, hD, hperm⟩ := Q3S h hnd hk hl
  have hlt := h.lt
  refine (callsIn_wide (n := 5)).1 ?_
  have hseq : SeqGives Fence.wide 2 Try.prog 39 #[.pointer (some ⟨w.heap.size, 0, none⟩)] encZ (fun ss => ss.Perm (intKeys D)) (Maps.size D) (w.alloc (.cells #[.map (some q)] 67)) :=
    AnyZI.keys_gives (ρ := kA_ren) { kA with } Fence.wide _ trivial rfl (by omega) w.heap.size q lv.length D _ (by simp) (by simp) (by
      obtain ⟨es, clock, hb, Ft, hs, hD⟩ := hown
      exact ⟨es, clock, (Go.RowKit.Below.heap_alloc _ _ q hlt).trans hb, Ft, hs, hD⟩)
  have cS := AnyZI.sorted_in sA Fence.wide 5 trivial trivial trivial trivial rfl (by omega) (sortsA _) (enters_of Try.func38 (by kernel_rfl) rfl) 39 #[.pointer (some ⟨w.heap.size, 0, none⟩)] trivial (enters_of Try.func39 (by kernel_rfl) rfl) _ _ (by rw [hD]; unfold maxLen; omega) (by rw [hD]; omega) _ hseq
  refine cS.mono ?_
  rintro e w' ⟨v, ss, rfl, hS, hrow, hnil, hb⟩
  have hlen : ss.length = lv.length := by rw [(hS.trans hperm).length_eq, List.length_map]
  have hsort : ss.mergeSort leI = sortedK lv := mergeSort_of_perm_i (hS.trans hperm)
  have X1 : Ext no w (w.alloc (.cells #[.map (some q)] 67)) := (Ext.refl _ _).alloc _
  have X2 : Ext no (w.alloc (.cells #[.map (some q)] 67)) w' := ⟨hb.os, hb.tape, hb.output, hb.size, fun k hk _ => hb.block k hk⟩
  obtain ⟨a, c, hv, hr⟩ := RowAt.of_owns hrow
  subst hv

  have hfr : ∀ ad, a = some ad → w.heap.size ≤ ad.block := fun ad ha => by
    subst ha
    rcases hrow.2 with ⟨hv, _⟩ | ⟨g, cap, cur, hv, hb, _⟩
    · cases hv
    · cases hv; exact Nat.le_trans X1.size hb
  refine ⟨a, c, by rw [hlen], ?_, hfr, X1.trans X2⟩
  have : ((sortedK lv).map i64V) = (ss.mergeSort leI).map encZ := by rw [hsort]; rfl
  rw [this]; exact hr
abbrev AL := List (Int × (Ent × Ent))
structure Fine (al : AL) : Prop where
  nd : (al.map (·.1)).Nodup
  rng : ∀ p ∈ al, 0 ≤ p.1 ∧ p.1 < 8
  sm : ∀ p ∈ al, p.2.1.body.length ≤ 1500 ∧ p.2.2.body.length ≤ 1500
def hasK (al : AL) (i : Nat) : Bool := (alook al (i : Int)).isSome
def hasL (al : AL) : List Value := (List.range 8).map fun i => .bool (hasK al i)
def inL (al : AL) : List Nat := (List.range 8).filter (hasK al)
def cntK (al : AL) (t : Nat) : Nat := ((List.range t).filter (hasK al)).length
theorem Fine.nil : Fine [] := ⟨List.nodup_nil, (fun p h => by cases h), (fun p h => by cases h)⟩
theorem Q0V {al : AL} {x : Int} : (alook al x).isSome = true ↔ x ∈ al.map (·.1) := by
  induction al with
  | nil => simp [alook]
  | cons p r ih =>
    simp only [alook, List.map_cons, List.mem_cons]
    by_cases h : p.1 = x
    · rw [if_pos h]; simp [h]
    · rw [if_neg h, ih]; simp [Ne.symm h]
theorem Q2N {al : AL} {x : Int} (h : alook al x = none) (v : Ent × Ent) : aput al x v = al ++ [(x, v)] := by
  induction al with
  | nil => rfl
  | cons p r ih =>
    simp only [alook] at h
    by_cases hp : p.1 = x
    · rw [if_pos hp] at h; cases h
    · rw [if_neg hp] at h; simp only [aput, if_neg hp, ih h]; rfl
theorem Fine.put {al : AL} (h : Fine al) {x : Int} (hx : alook al x = none) (h0 : 0 ≤ x ∧ x < 8) {a b : Ent} (ha : a.body.length ≤ 1500) (hb : b.body.length ≤ 1500) : Fine (aput al x (a, b)) := by
  rw [Q2N hx]
  refine ⟨?_, fun p hp => ?_, fun p hp => ?_⟩
  · rw [List.map_append, List.nodup_append]
    refine ⟨h.nd, by simp, fun y hy z hz e => ?_⟩
    simp at hz; subst hz; subst e
    have := Q0V.2 hy
    rw [hx] at this; cases this
  · rcases List.mem_append.1 hp with hp | hp
    · exact h.rng p hp
    · simp at hp; subst hp; exact h0
  · rcases List.mem_append.1 hp with hp | hp
    · exact h.sm p hp
    · simp at hp; subst hp; exact ⟨ha, hb⟩
theorem Fine.slim {al : AL} (h : Fine al) : Slim al := fun q hq => ⟨by have := (h.sm q hq).1; omega, by have := (h.sm q hq).2; omega⟩
theorem Q2w {al : AL} (h : Fine al) : sortedK al = (inL al).map Int.ofNat := by
  have hp : ((inL al).map Int.ofNat).Pairwise (fun x y => leI x y = true) := by
    refine List.pairwise_map.2 ((List.pairwise_lt_range.filter (hasK al)).imp fun {x y} hxy => ?_)
    simp only [leI, decide_eq_true_eq]
    exact Int.ofNat_le.2 (Nat.le_of_lt hxy)
  have hnd : ((inL al).map Int.ofNat).Nodup := by
    refine List.pairwise_map.2 ((List.nodup_range.filter (hasK al)).imp fun {x y} hne e => hne (by injection e))
  have hmem : ∀ x, x ∈ al.map (·.1) ↔ x ∈ (inL al).map Int.ofNat := fun x => by
    rw [← Q0V, List.mem_map]
    constructor
    · intro hx
      obtain ⟨p, hp, rfl⟩ := List.mem_map.1 (Q0V.1 hx)
      have hr := h.rng p hp
      have e : Int.ofNat p.1.toNat = p.1 := Int.toNat_of_nonneg hr.1
      refine ⟨p.1.toNat, List.mem_filter.2 ⟨List.mem_range.2 (by omega), ?_⟩, e⟩
      unfold hasK
      rw [show ((p.1.toNat : Nat) : Int) = p.1 from e]; exact hx
    · rintro ⟨i, hi, rfl⟩
      exact (List.mem_filter.1 hi).2
  have := mergeSort_of_perm_i ((List.perm_ext_iff_of_nodup h.nd hnd).2 hmem)
  unfold sortedK
  rw [this]
  exact List.mergeSort_of_pairwise hp
theorem inL_len {al : AL} (h : Fine al) : (inL al).length = al.length := by
  have := congrArg List.length (Q2w h)
  unfold sortedK at this
  rw [List.length_mergeSort, List.length_map, List.length_map] at this
  exact this.symm
theorem cnt_end (al : AL) : cntK al 8 = (inL al).length := rfl
theorem cnt_le (al : AL) (t : Nat) (h : t ≤ 8) : cntK al t ≤ (inL al).length := by
  unfold cntK inL
  obtain ⟨d, hd⟩ : ∃ d, 8 = t + d := ⟨8 - t, by omega⟩
  rw [hd, List.range_add, List.filter_append, List.length_append]; omega
theorem cnt_yes {al : AL} {t : Nat} (h : hasK al t = true) : cntK al (t + 1) = cntK al t + 1 := by
  unfold cntK
  rw [List.range_succ, List.filter_append]; simp [h]
theorem cnt_no {al : AL} {t : Nat} (h : hasK al t = false) : cntK al (t + 1) = cntK al t := by
  unfold cntK
  rw [List.range_succ, List.filter_append]; simp [h]
theorem inL_at {al : AL} {t : Nat} (ht : t < 8) (h : hasK al t = true) : (inL al)[cntK al t]? = some t := by
  unfold cntK inL
  obtain ⟨d, hd⟩ : ∃ d, 8 = t + (d + 1) := ⟨7 - t, by omega⟩
  rw [hd, List.range_add, List.filter_append, List.getElem?_append_right (Nat.le_refl _), Nat.sub_self, List.range_succ_eq_map, List.map_cons, Nat.add_zero, List.filter_cons_of_pos h]
  rfl
theorem Q4p {al : AL} {t : Nat} (ht : t < 8) : (hasL al)[t]? = some (.bool (hasK al t)) := by
  unfold hasL
  rw [List.getElem?_map, List.getElem?_range ht]; rfl
theorem Q4j {al : AL} {x : Nat} (hx : x < 8) (v : Ent × Ent) : (hasL al).set x (.bool true) = hasL (aput al (x : Int) v) := by
  refine List.ext_getElem (by simp [hasL]) fun i h1 h2 => ?_
  have h8 : i < 8 := by simpa [hasL] using h2
  rw [List.getElem_set]
  simp only [hasL, List.getElem_map, List.getElem_range]
  unfold hasK
  rw [Q0z]
  by_cases hi : x = i
  · subst hi; rw [if_pos rfl, if_pos rfl]; rfl
  · rw [if_neg hi, if_neg (by omega)]
section
variable {w w' : World} {o o' : Own} {k j n : Nat} {K : Nat → Prop}
theorem PrfL.keys : ∀ {l : AL} {lv : List (Int × Value)}, PrfL w o l lv → lv.map (·.1) = l.map (·.1)
  | [], [], _ => rfl
  | p :: r, q :: s, h => by simp only [List.map_cons, PrfL.keys h.2.2, h.1]
  | [], _ :: _, h => h.elim
  | _ :: _, [], h => h.elim
def kV (i : Nat) : Value := i64V (i : Int)
def atK (al : AL) (i : Nat) : Ent × Ent := (alook al (i : Int)).getD zz
theorem Q3j {al : AL} (A : Alm w o j al) (ok : Tags w o) (F : Fine al) :
    Calls Try.prog 12 #[.pointer (some (blk j))] w (fun e w' => ∃ (o' : Own) (a : Option Addr) (c : Nat) (ps : List PP), e = .returned (.slice a ps.length c) ∧ Step no w o w' o' ∧ ps.map PP.p = (inL al).map (atK al) ∧ Row w' o' a (PP.Cs ps) ∧ ∀ p ∈ ps, p.ok w' o') := by
  refine (Q05.go (some (blk j)) (R := fun v w' => ∃ (o' : Own) (a : Option Addr) (c : Nat) (ps : List PP), v = (.slice a ps.length c) ∧ Step no w o w' o' ∧ ps.map PP.p = (inL al).map (atK al) ∧ Row w' o' a (PP.Cs ps) ∧ ∀ p ∈ ps, p.ok w' o') ?_).mono fun e w' ⟨v, he, o', a, c, ps, hv, hw⟩ => ⟨o', a, c, ps, by rw [he, hv], hw⟩
  obtain ⟨hoj, q, lv, h1, h2, h3, h4, h5⟩ := id A
  have hkeys := h5.keys
  have hnd : (lv.map (·.1)).Nodup := by rw [hkeys]; exact F.nd
  have hk : ∀ p ∈ lv, 0 ≤ p.1 ∧ p.1 < 8 := fun p hp => by
    have : p.1 ∈ al.map (·.1) := by rw [← hkeys]; exact List.mem_map_of_mem hp
    obtain ⟨r, hr, e⟩ := List.mem_map.1 this
    rw [← e]; exact F.rng r hr
  have hlen := h5.len
  have hin := inL_len F
  have h8 : (inL al).length ≤ 8 := by
    have := List.length_filter_le (hasK al) (List.range 8)
    rw [List.length_range] at this; exact this
  unfold Q05.N
  refine ⟨fun h => (by cases h), fun _ => ⟨_, rfl, some q, h1.cella (i := 0) rfl, ?_⟩⟩
  refine (Q2I q w).mono fun e w8 ⟨he, hw8⟩ => ⟨_, _, _, he, ?_⟩
  subst hw8
  refine (Q2e h2 hnd hk (by omega)).mono fun e w11 ⟨sa, sc, he, hr, hfr, X11⟩ => ⟨_, _, _, he, ?_⟩
  have s11 := Step.of_no X11 ok
  have rK : Row w11 (grow w o) sa ((inL al).map kV) := by
    refine Row.fresh ?_ hfr
    have e1 : sortedK lv = sortedK al := by unfold sortedK; rw [hkeys]
    rw [e1, Q2w F, List.map_map] at hr
    exact hr
  have hn : lv.length = (inL al).length := by omega
  rw [hn]
  refine ⟨fun m vs w1 => ∃ (t : Nat) (a1 : Option Addr) (c1 : Nat) (ps : List PP) (o1 : Own), vs = [.slice a1 ps.length c1, .int .i64 t] ∧ m + t = (inL al).length ∧ ps.map PP.p = ((inL al).take t).map (atK al) ∧ Step no w o w1 o1 ∧ LRow 38 16 w.heap.size w1 o1 a1 ps.length c1 (PP.Cs ps) ∧ (∀ x ∈ ps, x.ok w1 o1) ∧ Row w1 o1 sa ((inL al).map kV), (inL al).length,
    ⟨0, none, 0, [], _, rfl, rfl, rfl, s11, LRow.nil _ _ _ _ _, (fun x h => by cases h), rK⟩, ?_⟩
  rintro m w1 ra rn rc i ⟨t, a1, c1, ps, o1, hi, hm, hmap, s1, hL, hok, rK1⟩
  simp only [List.cons.injEq, Value.slice.injEq, Value.int.injEq, true_and, and_true] at hi
  obtain ⟨⟨rfl, rfl, rfl⟩, rfl⟩ := hi
  have hps : ps.length = min t (inL al).length := by have := congrArg List.length hmap; simpa using this
  refine ⟨fun ht => ?_, fun ht => ?_⟩
  · have hti : t < (inL al).length := by omega
    obtain ⟨y, hy⟩ : ∃ y, (inL al)[t]? = some y := ⟨_, List.getElem?_eq_getElem hti⟩
    have hcell : ((inL al).map kV)[t]? = some (i64V (y : Int)) := by rw [List.getElem?_map, hy]; rfl
    obtain ⟨ad, rfl⟩ := rK1.1.addr (by intro e; have := congrArg List.length e; simp only [List.length_map, List.length_nil] at this; omega)
    have A1 := A.step s1 id
    obtain ⟨hoj1, q1, lv1, b1, b2, b3, b4, b5⟩ := id A1
    obtain ⟨i, hi, hz, hsz, hby⟩ := info_of inf38
    have hlk := b2.lookup (Q1v (k := .i64) Try.underlying3) Try.underlying67 hi hz (y : Int) false
    obtain ⟨xa, xc, ya, yc, key, kis, rx, ry⟩ := b5.find (y : Int)
    obtain ⟨lx, ly⟩ := F.slim.at (y : Int)
    have hat : (alook al (y : Int)).getD zz = atK al y := rfl
    rw [hat] at key rx ry lx ly
    generalize hpr : atK al y = pr at *
    obtain ⟨u, v⟩ := pr
    dsimp only at key rx ry lx ly
    rw [if_neg (by decide), key] at hlk
    refine ⟨ad, rfl, by omega, by omega, y, by rw [Int.toNat_natCast, Nat.mul_one]; exact rK1.1.at_ hcell, some q1, b1.cella (i := 0) rfl, u.w, u.i, u.pv, u.t, u.tw, u.ep, xa, u.body.length, xc, u.sg, v.w, v.i, v.pv, v.t, v.tw, v.ep, ya, v.body.length, yc, v.sg, hlk, fun w42 p43 X42 hp43 => ?_⟩
    obtain ⟨s42, M42⟩ := Step.priv X42 hp43 s1.ok
    refine (Q0W (e := u) s42.ok (rx.step s42) lx).mono fun e w53 ⟨o53, ca, cc, he, s53, rc', lc⟩ => ⟨_, _, _, _, _, _, _, _, _, _, he, M42.keep s53 (fun _ _ => id), ?_⟩
    refine (Q0W (e := v) s53.ok ((ry.step s42).step s53) ly).mono fun e w63 ⟨o63, da, dc, he, s63, rd, ld⟩ => ⟨_, _, _, _, _, _, _, _, _, _, he, fun w64 q65 X64 hb65 hq65 hq65' => ?_⟩
    have s64 := Step.of_no X64 s63.ok
    have s164 : Step no w1 o1 w64 _ := ((s42.trans s53).trans s63).trans s64
    have hL64 := hL.step s164 fun k h => h.elim
    have hnews : RowAt w64 (some (blk q65)) (PP.C ⟨⟨u, ca, cc⟩, ⟨v, da, dc⟩⟩) := RowAt.of_blk hb65
    have l1 := s1.size
    have l63 := ((s42.trans s53).trans s63).size
    obtain ⟨a', c', w67, o67, hr', s67, hL67, _⟩ := hL64.push (ty := 47) Try.underlying47 hi hz hsz hby rfl (by decide) s64.ok (p := q65) (by omega) hq65' (xa := some (blk q65)) (m := 1) (xc := 1) (news := PP.C ⟨⟨u, ca, cc⟩, ⟨v, da, dc⟩⟩) rfl hnews (PP.one _) (by omega) (by omega)
    refine ⟨a', _, c', w67, hr', by omega, by omega, m - 1, by omega, t + 1, a', c', ps ++ [⟨⟨u, ca, cc⟩, ⟨v, da, dc⟩⟩], o67, by simp, by omega, ?_, (s1.trans s164).trans' s67 (fun j hj => .inr hj), ?_, fun y hy => ?_, (rK1.step s164).step s67⟩
    · rw [List.map_append, hmap, List.take_add_one, hy, List.map_append]
      simp only [Option.toList_some, List.map_cons, List.map_nil, hpr]; rfl
    · have : PP.Cs (ps ++ [⟨⟨u, ca, cc⟩, ⟨v, da, dc⟩⟩]) = PP.Cs ps ++ PP.C ⟨⟨u, ca, cc⟩, ⟨v, da, dc⟩⟩ := by simp [PP.Cs]
      rw [List.length_append, this]; exact hL67
    · rcases List.mem_append.1 hy with hy | hy
      · exact ((hok y hy).step s164).step s67
      · simp at hy; subst hy
        exact ⟨((rc'.step s63).step s64).step s67, (rd.step s64).step s67, lc, ld⟩
  · have : t = (inL al).length := by omega
    subst this
    rw [List.take_length] at hmap
    exact ⟨_, _, _, ps, rfl, Step.of_no (s1.ext.mono fun b ⟨_, _, h⟩ _ => h) ok, hmap, hL.give s1 (Nat.le_refl _), fun x hx => ⟨(hok x hx).1.forget s1, (hok x hx).2.1.forget s1, (hok x hx).2.2⟩⟩
end
end Go.Proofs.Ytebghegecofmhaa
set_option linter.unusedSectionVars false
namespace Go.Mx
open Go
section
variable {P : Program} {w w' : World} {q k : Nat} {t e : TypeId} {cs vs : List Value}
theorem Q18 {w : World} {b k : Nat} (hb : Blk w b t cs) : ∀ (vs : List Value) (j : Nat), (∀ n v, vs[n]? = some v → cs[k + j + n]? = some v) → cellsAt w ((blk b).add k) vs j
  | [], _, _ => trivial
  | v :: r, j, h => by
    refine ⟨?_, Q18 hb r (j + 1) fun n u hu => ?_⟩
    · rw [add_add, add_blk]
      exact hb.cell (i := k + j) (h 0 v rfl)
    · have := h (n + 1) u (by simpa using hu)
      rwa [show k + (j + 1) + n = k + j + (n + 1) by omega]
end
end Go.Mx
set_option maxRecDepth 100000
set_option maxHeartbeats 40000000
namespace Go.Proofs.Ytebghegecofmhaa
open Go Go.Mx Go.Proofs
abbrev almL.J1 (bv af : Int) (I2 : Nat → List Value → World → Prop) (cm : Nat) (c6 : Option Addr) (ax : Nat) (ct cu : World) (R : RW) (ch : World) : Prop :=
 0 ≤ (af : Int) ∧ (af : Int) < (8 : Int) ∧
 ∃ (cn : Bool), ch.cell? ((blk cu.heap.size).add (Int.toNat af * 1)) = some (.bool cn) ∧
 bif cn then (
 thenW (ch.drew) fun c2 =>
 bif decide (bv ≥ (ax : Int)) then (
 R (.bool false) c2) else (
 c6.elim False fun cs =>
 0 ≤ (bv : Int) ∧ (bv : Int) < (ax : Int) ∧
 ∃ (ae b2 bc bt c1 ar : Int) (b3 : Option Addr) (b0 ao : Nat) (bq ag ap ba bx br au : Int) (ay : Option Addr) (av az : Nat) (bs : Int), cellsAt c2 (cs.add (Int.toNat bv * 16)) [.int .i64 ae, .int .i64 b2, .int .u64 bc, .int .i64 bt, .int .i64 c1, .int .i64 ar, .slice b3 b0 ao, .int .u64 bq, .int .i64 ag, .int .i64 ap, .int .u64 ba, .int .i64 bx, .int .i64 br, .int .i64 au, .slice ay av az, .int .u64 bs] 0 ∧
 0 ≤ (af : Int) ∧ (af : Int) < (8 : Int) ∧
 ∃ (a0 a4 ad al ah a8 : Int) (a5 : Option Addr) (a2 ab : Nat) (ai a1 a3 ac am aj aa : Int) (a6 : Option Addr) (a7 a9 : Nat) (ak : Int), cellsAt c2 ((blk ct.heap.size).add (Int.toNat af * 16)) [.int .i64 a0, .int .i64 a4, .int .u64 ad, .int .i64 al, .int .i64 ah, .int .i64 a8, .slice a5 a2 ab, .int .u64 ai, .int .i64 a1, .int .i64 a3, .int .u64 ac, .int .i64 am, .int .i64 aj, .int .i64 aa, .slice a6 a7 a9, .int .u64 ak] 0 ∧
 Calls Try.prog 15 #[.agg #[.int .i64 ae, .int .i64 b2, .int .u64 bc, .int .i64 bt, .int .i64 c1, .int .i64 ar, .slice b3 b0 ao, .int .u64 bq, .int .i64 ag, .int .i64 ap, .int .u64 ba, .int .i64 bx, .int .i64 br, .int .i64 au, .slice ay av az, .int .u64 bs]] c2 fun cp cj => ∃ (b1 b4 bw cb c9 bf : Int) (b6 : Option Addr) (b9 bl : Nat) (ce an be bz c8 cg b8 : Int) (bd : Option Addr) (bj b7 : Nat) (c3 : Int), cp = .returned (.agg #[.int .i64 b1, .int .i64 b4, .int .u64 bw, .int .i64 cb, .int .i64 c9, .int .i64 bf, .slice b6 b9 bl, .int .u64 ce, .int .i64 an, .int .i64 be, .int .u64 bz, .int .i64 c8, .int .i64 cg, .int .i64 b8, .slice bd bj b7, .int .u64 c3]) ∧
 cellsAt cj ((blk ct.heap.size).add (Int.toNat af * 16)) [.int .i64 a0, .int .i64 a4, .int .u64 ad, .int .i64 al, .int .i64 ah, .int .i64 a8, .slice a5 a2 ab, .int .u64 ai, .int .i64 a1, .int .i64 a3, .int .u64 ac, .int .i64 am, .int .i64 aj, .int .i64 aa, .slice a6 a7 a9, .int .u64 ak] 0 ∧
 Calls Try.prog 15 #[.agg #[.int .i64 a0, .int .i64 a4, .int .u64 ad, .int .i64 al, .int .i64 ah, .int .i64 a8, .slice a5 a2 ab, .int .u64 ai, .int .i64 a1, .int .i64 a3, .int .u64 ac, .int .i64 am, .int .i64 aj, .int .i64 aa, .slice a6 a7 a9, .int .u64 ak]] cj fun cr cq => ∃ (aw bp c0 c5 cf bb : Int) (bg : Option Addr) (bi bn : Nat) (c7 aq bk bu cd ca bo : Int) (bh : Option Addr) (bm b5 : Nat) (cc : Int), cr = .returned (.agg #[.int .i64 aw, .int .i64 bp, .int .u64 c0, .int .i64 c5, .int .i64 cf, .int .i64 bb, .slice bg bi bn, .int .u64 c7, .int .i64 aq, .int .i64 bk, .int .u64 bu, .int .i64 cd, .int .i64 ca, .int .i64 bo, .slice bh bm b5, .int .u64 cc]) ∧
 Calls Try.prog 14 #[.agg #[.int .i64 b1, .int .i64 b4, .int .u64 bw, .int .i64 cb, .int .i64 c9, .int .i64 bf, .slice b6 b9 bl, .int .u64 ce, .int .i64 an, .int .i64 be, .int .u64 bz, .int .i64 c8, .int .i64 cg, .int .i64 b8, .slice bd bj b7, .int .u64 c3], .agg #[.int .i64 aw, .int .i64 bp, .int .u64 c0, .int .i64 c5, .int .i64 cf, .int .i64 bb, .slice bg bi bn, .int .u64 c7, .int .i64 aq, .int .i64 bk, .int .u64 bu, .int .i64 cd, .int .i64 ca, .int .i64 bo, .slice bh bm b5, .int .u64 cc]] cq fun co ci => ∃ (c4 : Bool), co = .returned (.bool c4) ∧
 bif !c4 then (
 R (.bool false) ci) else (
 ∃ cl, cl < cm ∧ I2 cl [.int .i64 (IntKind.i64.wrap (bv + 1)), .int .i64 (IntKind.i64.wrap (af + 1))] ci))) else (
 ∃ ck, ck < cm ∧ I2 ck [.int .i64 bv, .int .i64 (IntKind.i64.wrap (af + 1))] ch)

abbrev almL.J2 (df af : Int) (I2 : Nat → List Value → World → Prop) (dh : Nat) (d1 ck : Option Addr) (cs : Nat) (de dg : World) (R : RW) (dc : World) : Prop :=
 Calls Try.prog 13 #[.pointer d1, .int .i64 af] dc fun d6 d0 => ∃ (ao c0 c4 cq cr bm : Int) (bx : Option Addr) (b9 bl : Nat) (cl an bk c6 cu ct b5 : Int) (bt : Option Addr) (be c1 : Nat) (cp : Int) (d3 : Bool), d6 = .returned (.tuple #[.agg #[.int .i64 ao, .int .i64 c0, .int .u64 c4, .int .i64 cq, .int .i64 cr, .int .i64 bm, .slice bx b9 bl, .int .u64 cl, .int .i64 an, .int .i64 bk, .int .u64 c6, .int .i64 cu, .int .i64 ct, .int .i64 b5, .slice bt be c1, .int .u64 cp], .bool d3]) ∧
 thenW (d0.alloc (.cells #[.int .i64 0, .int .i64 0, .int .u64 0, .int .i64 0, .int .i64 0, .int .i64 0, .slice none 0 0, .int .u64 0, .int .i64 0, .int .i64 0, .int .u64 0, .int .i64 0, .int .i64 0, .int .i64 0, .slice none 0 0, .int .u64 0] 38)) fun d7 =>
 putsK d7 (blk d0.heap.size) [.int .i64 ao, .int .i64 c0, .int .u64 c4, .int .i64 cq, .int .i64 cr, .int .i64 bm, .slice bx b9 bl, .int .u64 cl, .int .i64 an, .int .i64 bk, .int .u64 c6, .int .i64 cu, .int .i64 ct, .int .i64 b5, .slice bt be c1, .int .u64 cp] 0 fun da =>
 thenW (da.drew) fun b6 =>
 0 ≤ (af : Int) ∧ (af : Int) < (8 : Int) ∧
 ∃ (d5 : Bool), b6.cell? ((blk dg.heap.size).add (Int.toNat af * 1)) = some (.bool d5) ∧
 bif !(d3 == d5) then (
 R (.bool false) b6) else (
 ∃ (ae au bn c8 cd ay : Int) (b1 : Option Addr) (ar av : Nat) (c7 ag aw bv ca c9 az : Int) (b3 : Option Addr) (aq b2 : Nat) (c5 : Int), cellsAt b6 (blk d0.heap.size) [.int .i64 ae, .int .i64 au, .int .u64 bn, .int .i64 c8, .int .i64 cd, .int .i64 ay, .slice b1 ar av, .int .u64 c7, .int .i64 ag, .int .i64 aw, .int .u64 bv, .int .i64 ca, .int .i64 c9, .int .i64 az, .slice b3 aq b2, .int .u64 c5] 0 ∧
 0 ≤ (af : Int) ∧ (af : Int) < (8 : Int) ∧
 ∃ (a1 a8 ad am aj aa : Int) (a9 : Option Addr) (a4 a2 : Nat) (al a0 a6 ac ai ah ab : Int) (a5 : Option Addr) (a3 a7 : Nat) (ak : Int), cellsAt b6 ((blk de.heap.size).add (Int.toNat af * 16)) [.int .i64 a1, .int .i64 a8, .int .u64 ad, .int .i64 am, .int .i64 aj, .int .i64 aa, .slice a9 a4 a2, .int .u64 al, .int .i64 a0, .int .i64 a6, .int .u64 ac, .int .i64 ai, .int .i64 ah, .int .i64 ab, .slice a5 a3 a7, .int .u64 ak] 0 ∧
 Calls Try.prog 15 #[.agg #[.int .i64 ae, .int .i64 au, .int .u64 bn, .int .i64 c8, .int .i64 cd, .int .i64 ay, .slice b1 ar av, .int .u64 c7, .int .i64 ag, .int .i64 aw, .int .u64 bv, .int .i64 ca, .int .i64 c9, .int .i64 az, .slice b3 aq b2, .int .u64 c5]] b6 fun db d4 => ∃ (b0 c2 ce cg cj bz : Int) (bo : Option Addr) (br bw : Nat) (cw ap bc cb cz cx bi : Int) (ba : Option Addr) (bj bh : Nat) (ci : Int), db = .returned (.agg #[.int .i64 b0, .int .i64 c2, .int .u64 ce, .int .i64 cg, .int .i64 cj, .int .i64 bz, .slice bo br bw, .int .u64 cw, .int .i64 ap, .int .i64 bc, .int .u64 cb, .int .i64 cz, .int .i64 cx, .int .i64 bi, .slice ba bj bh, .int .u64 ci]) ∧
 cellsAt d4 ((blk de.heap.size).add (Int.toNat af * 16)) [.int .i64 a1, .int .i64 a8, .int .u64 ad, .int .i64 am, .int .i64 aj, .int .i64 aa, .slice a9 a4 a2, .int .u64 al, .int .i64 a0, .int .i64 a6, .int .u64 ac, .int .i64 ai, .int .i64 ah, .int .i64 ab, .slice a5 a3 a7, .int .u64 ak] 0 ∧
 Calls Try.prog 15 #[.agg #[.int .i64 a1, .int .i64 a8, .int .u64 ad, .int .i64 am, .int .i64 aj, .int .i64 aa, .slice a9 a4 a2, .int .u64 al, .int .i64 a0, .int .i64 a6, .int .u64 ac, .int .i64 ai, .int .i64 ah, .int .i64 ab, .slice a5 a3 a7, .int .u64 ak]] d4 fun d8 dd => ∃ (b4 bs cc cn cy bq : Int) (bu : Option Addr) (bp bb : Nat) (co ax b7 c3 cv cm bg : Int) (b8 : Option Addr) (bf bd : Nat) (cf : Int), d8 = .returned (.agg #[.int .i64 b4, .int .i64 bs, .int .u64 cc, .int .i64 cn, .int .i64 cy, .int .i64 bq, .slice bu bp bb, .int .u64 co, .int .i64 ax, .int .i64 b7, .int .u64 c3, .int .i64 cv, .int .i64 cm, .int .i64 bg, .slice b8 bf bd, .int .u64 cf]) ∧
 Calls Try.prog 14 #[.agg #[.int .i64 b0, .int .i64 c2, .int .u64 ce, .int .i64 cg, .int .i64 cj, .int .i64 bz, .slice bo br bw, .int .u64 cw, .int .i64 ap, .int .i64 bc, .int .u64 cb, .int .i64 cz, .int .i64 cx, .int .i64 bi, .slice ba bj bh, .int .u64 ci], .agg #[.int .i64 b4, .int .i64 bs, .int .u64 cc, .int .i64 cn, .int .i64 cy, .int .i64 bq, .slice bu bp bb, .int .u64 co, .int .i64 ax, .int .i64 b7, .int .u64 c3, .int .i64 cv, .int .i64 cm, .int .i64 bg, .slice b8 bf bd, .int .u64 cf]] dd fun d9 d2 => ∃ (ch : Bool), d9 = .returned (.bool ch) ∧
 bif !ch then (
 R (.bool false) d2) else (
 almL.J1 df af I2 dh ck cs de dg R d2))

abbrev almL.J3 (ag : Int) (I0 : Nat → List Value → World → Prop) (aj : Nat) (a1 : Option Addr) (ai ah : World) (R : RW) (ac : World) : Prop :=
 Calls Try.prog 12 #[.pointer a1] ac fun ad ab => ∃ (a2 : Option Addr) (a0 a3 : Nat), ad = .returned (.slice a2 a0 a3) ∧
 ∃ (I2 : Nat → List Value → World → Prop) (af : Nat), I2 af [.int .i64 0, .int .i64 0] ab ∧ ∀ (aa : Nat) (a4 : World) (a7 a5 : Int), I2 aa [.int .i64 a7, .int .i64 a5] a4 →
 bif decide (a5 < 8) then (
 almL.J2 a7 a5 I2 aa a1 a2 a0 ai ah R a4) else (
 Calls Try.prog 16 #[.pointer a1] a4 fun ae a6 => ∃ (a8 : Bool), ae = .returned (.bool a8) ∧
 bif !(a8 == true) then (
 R (.bool false) a6) else (
 bif a7 != (a0 : Int) then (
 R (.bool false) a6) else (
 ∃ a9, a9 < aj ∧ I0 a9 [.bool true, .int .i64 (IntKind.i64.wrap (ag + 1))] a6)))

abbrev almL.J4 (bz ag : Int) (I2 : Nat → List Value → World → Prop) (cn : Nat) (cc : Option Addr) (b2 : Nat) (cs cu : World) (R : RW) (ch : World) : Prop :=
 0 ≤ (ag : Int) ∧ (ag : Int) < (8 : Int) ∧
 ∃ (cm : Bool), ch.cell? ((blk cu.heap.size).add (Int.toNat ag * 1)) = some (.bool cm) ∧
 bif cm then (
 thenW (ch.drew) fun c2 =>
 bif decide (bz ≥ (b2 : Int)) then (
 R (.bool false) c2) else (
 cc.elim False fun ct =>
 0 ≤ (bz : Int) ∧ (bz : Int) < (b2 : Int) ∧
 ∃ (ae aq bh bq bw ap : Int) (b1 : Option Addr) (b3 au : Nat) (bt af ax ba c0 bv ao : Int) (az : Option Addr) (av b0 : Nat) (bu : Int), cellsAt c2 (ct.add (Int.toNat bz * 16)) [.int .i64 ae, .int .i64 aq, .int .u64 bh, .int .i64 bq, .int .i64 bw, .int .i64 ap, .slice b1 b3 au, .int .u64 bt, .int .i64 af, .int .i64 ax, .int .u64 ba, .int .i64 c0, .int .i64 bv, .int .i64 ao, .slice az av b0, .int .u64 bu] 0 ∧
 0 ≤ (ag : Int) ∧ (ag : Int) < (8 : Int) ∧
 ∃ (a1 a4 ac aj am a8 : Int) (a7 : Option Addr) (aa a3 : Nat) (ak a0 a2 ad al ah a6 : Int) (a9 : Option Addr) (a5 ab : Nat) (ai : Int), cellsAt c2 ((blk cs.heap.size).add (Int.toNat ag * 16)) [.int .i64 a1, .int .i64 a4, .int .u64 ac, .int .i64 aj, .int .i64 am, .int .i64 a8, .slice a7 aa a3, .int .u64 ak, .int .i64 a0, .int .i64 a2, .int .u64 ad, .int .i64 al, .int .i64 ah, .int .i64 a6, .slice a9 a5 ab, .int .u64 ai] 0 ∧
 Calls Try.prog 15 #[.agg #[.int .i64 ae, .int .i64 aq, .int .u64 bh, .int .i64 bq, .int .i64 bw, .int .i64 ap, .slice b1 b3 au, .int .u64 bt, .int .i64 af, .int .i64 ax, .int .u64 ba, .int .i64 c0, .int .i64 bv, .int .i64 ao, .slice az av b0, .int .u64 bu]] c2 fun cq ci => ∃ (an bc bx c9 c5 bp : Int) (b4 : Option Addr) (bl bf : Nat) (ce ay bk br ca cg bd : Int) (bi : Option Addr) (bb be : Nat) (c8 : Int), cq = .returned (.agg #[.int .i64 an, .int .i64 bc, .int .u64 bx, .int .i64 c9, .int .i64 c5, .int .i64 bp, .slice b4 bl bf, .int .u64 ce, .int .i64 ay, .int .i64 bk, .int .u64 br, .int .i64 ca, .int .i64 cg, .int .i64 bd, .slice bi bb be, .int .u64 c8]) ∧
 cellsAt ci ((blk cs.heap.size).add (Int.toNat ag * 16)) [.int .i64 a1, .int .i64 a4, .int .u64 ac, .int .i64 aj, .int .i64 am, .int .i64 a8, .slice a7 aa a3, .int .u64 ak, .int .i64 a0, .int .i64 a2, .int .u64 ad, .int .i64 al, .int .i64 ah, .int .i64 a6, .slice a9 a5 ab, .int .u64 ai] 0 ∧
 Calls Try.prog 15 #[.agg #[.int .i64 a1, .int .i64 a4, .int .u64 ac, .int .i64 aj, .int .i64 am, .int .i64 a8, .slice a7 aa a3, .int .u64 ak, .int .i64 a0, .int .i64 a2, .int .u64 ad, .int .i64 al, .int .i64 ah, .int .i64 a6, .slice a9 a5 ab, .int .u64 ai]] ci fun cr co => ∃ (ar bm bs c7 c4 b5 : Int) (bo : Option Addr) (b8 b9 : Nat) (cd aw bj c1 c6 cb b7 : Int) (bn : Option Addr) (b6 bg : Nat) (c3 : Int), cr = .returned (.agg #[.int .i64 ar, .int .i64 bm, .int .u64 bs, .int .i64 c7, .int .i64 c4, .int .i64 b5, .slice bo b8 b9, .int .u64 cd, .int .i64 aw, .int .i64 bj, .int .u64 c1, .int .i64 c6, .int .i64 cb, .int .i64 b7, .slice bn b6 bg, .int .u64 c3]) ∧
 Calls Try.prog 14 #[.agg #[.int .i64 an, .int .i64 bc, .int .u64 bx, .int .i64 c9, .int .i64 c5, .int .i64 bp, .slice b4 bl bf, .int .u64 ce, .int .i64 ay, .int .i64 bk, .int .u64 br, .int .i64 ca, .int .i64 cg, .int .i64 bd, .slice bi bb be, .int .u64 c8], .agg #[.int .i64 ar, .int .i64 bm, .int .u64 bs, .int .i64 c7, .int .i64 c4, .int .i64 b5, .slice bo b8 b9, .int .u64 cd, .int .i64 aw, .int .i64 bj, .int .u64 c1, .int .i64 c6, .int .i64 cb, .int .i64 b7, .slice bn b6 bg, .int .u64 c3]] co fun cp cj => ∃ (cf : Bool), cp = .returned (.bool cf) ∧
 bif !cf then (
 R (.bool false) cj) else (
 ∃ ck, ck < cn ∧ I2 ck [.int .i64 (IntKind.i64.wrap (bz + 1)), .int .i64 (IntKind.i64.wrap (ag + 1))] cj))) else (
 ∃ cl, cl < cn ∧ I2 cl [.int .i64 bz, .int .i64 (IntKind.i64.wrap (ag + 1))] ch)

abbrev almL.J5 (df ae : Int) (I2 : Nat → List Value → World → Prop) (dg : Nat) (d1 co : Option Addr) (cs : Nat) (dc dh : World) (R : RW) (de : World) : Prop :=
 Calls Try.prog 13 #[.pointer d1, .int .i64 ae] de fun db d0 => ∃ (b4 b8 c7 cj cv c0 : Int) (bu : Option Addr) (bx bi : Nat) (cn an bg cb ck cw bd : Int) (bb : Option Addr) (bz b6 : Nat) (cx : Int) (d4 : Bool), db = .returned (.tuple #[.agg #[.int .i64 b4, .int .i64 b8, .int .u64 c7, .int .i64 cj, .int .i64 cv, .int .i64 c0, .slice bu bx bi, .int .u64 cn, .int .i64 an, .int .i64 bg, .int .u64 cb, .int .i64 ck, .int .i64 cw, .int .i64 bd, .slice bb bz b6, .int .u64 cx], .bool d4]) ∧
 thenW (d0.alloc (.cells #[.int .i64 0, .int .i64 0, .int .u64 0, .int .i64 0, .int .i64 0, .int .i64 0, .slice none 0 0, .int .u64 0, .int .i64 0, .int .i64 0, .int .u64 0, .int .i64 0, .int .i64 0, .int .i64 0, .slice none 0 0, .int .u64 0] 38)) fun d7 =>
 putsK d7 (blk d0.heap.size) [.int .i64 b4, .int .i64 b8, .int .u64 c7, .int .i64 cj, .int .i64 cv, .int .i64 c0, .slice bu bx bi, .int .u64 cn, .int .i64 an, .int .i64 bg, .int .u64 cb, .int .i64 ck, .int .i64 cw, .int .i64 bd, .slice bb bz b6, .int .u64 cx] 0 fun da =>
 thenW (da.drew) fun bw =>
 0 ≤ (ae : Int) ∧ (ae : Int) < (8 : Int) ∧
 ∃ (d5 : Bool), bw.cell? ((blk dh.heap.size).add (Int.toNat ae * 1)) = some (.bool d5) ∧
 bif !(d4 == d5) then (
 R (.bool false) bw) else (
 ∃ (af ay bt cd c9 ax : Int) (ap : Option Addr) (ar aq : Nat) (c3 ag b0 be c5 ca aw : Int) (b3 : Option Addr) (av b1 : Nat) (c4 : Int), cellsAt bw (blk d0.heap.size) [.int .i64 af, .int .i64 ay, .int .u64 bt, .int .i64 cd, .int .i64 c9, .int .i64 ax, .slice ap ar aq, .int .u64 c3, .int .i64 ag, .int .i64 b0, .int .u64 be, .int .i64 c5, .int .i64 ca, .int .i64 aw, .slice b3 av b1, .int .u64 c4] 0 ∧
 0 ≤ (ae : Int) ∧ (ae : Int) < (8 : Int) ∧
 ∃ (a0 a9 ad al aj a4 : Int) (a6 : Option Addr) (a5 ab : Nat) (ak a1 a8 ac am ai a2 : Int) (aa : Option Addr) (a3 a7 : Nat) (ah : Int), cellsAt bw ((blk dc.heap.size).add (Int.toNat ae * 16)) [.int .i64 a0, .int .i64 a9, .int .u64 ad, .int .i64 al, .int .i64 aj, .int .i64 a4, .slice a6 a5 ab, .int .u64 ak, .int .i64 a1, .int .i64 a8, .int .u64 ac, .int .i64 am, .int .i64 ai, .int .i64 a2, .slice aa a3 a7, .int .u64 ah] 0 ∧
 Calls Try.prog 15 #[.agg #[.int .i64 af, .int .i64 ay, .int .u64 bt, .int .i64 cd, .int .i64 c9, .int .i64 ax, .slice ap ar aq, .int .u64 c3, .int .i64 ag, .int .i64 b0, .int .u64 be, .int .i64 c5, .int .i64 ca, .int .i64 aw, .slice b3 av b1, .int .u64 c4]] bw fun d8 d3 => ∃ (b2 c1 c8 ci cq b7 : Int) (bf : Option Addr) (bl bo : Nat) (cu au bn ce cy cz bk : Int) (b9 : Option Addr) (bh bq : Nat) (cg : Int), d8 = .returned (.agg #[.int .i64 b2, .int .i64 c1, .int .u64 c8, .int .i64 ci, .int .i64 cq, .int .i64 b7, .slice bf bl bo, .int .u64 cu, .int .i64 au, .int .i64 bn, .int .u64 ce, .int .i64 cy, .int .i64 cz, .int .i64 bk, .slice b9 bh bq, .int .u64 cg]) ∧
 cellsAt d3 ((blk dc.heap.size).add (Int.toNat ae * 16)) [.int .i64 a0, .int .i64 a9, .int .u64 ad, .int .i64 al, .int .i64 aj, .int .i64 a4, .slice a6 a5 ab, .int .u64 ak, .int .i64 a1, .int .i64 a8, .int .u64 ac, .int .i64 am, .int .i64 ai, .int .i64 a2, .slice aa a3 a7, .int .u64 ah] 0 ∧
 Calls Try.prog 15 #[.agg #[.int .i64 a0, .int .i64 a9, .int .u64 ad, .int .i64 al, .int .i64 aj, .int .i64 a4, .slice a6 a5 ab, .int .u64 ak, .int .i64 a1, .int .i64 a8, .int .u64 ac, .int .i64 am, .int .i64 ai, .int .i64 a2, .slice aa a3 a7, .int .u64 ah]] d3 fun d9 dd => ∃ (az bv c6 ch cl bj : Int) (b5 : Option Addr) (ba bm : Nat) (cf ao br cc ct cp c2 : Int) (bp : Option Addr) (bs bc : Nat) (cr : Int), d9 = .returned (.agg #[.int .i64 az, .int .i64 bv, .int .u64 c6, .int .i64 ch, .int .i64 cl, .int .i64 bj, .slice b5 ba bm, .int .u64 cf, .int .i64 ao, .int .i64 br, .int .u64 cc, .int .i64 ct, .int .i64 cp, .int .i64 c2, .slice bp bs bc, .int .u64 cr]) ∧
 Calls Try.prog 14 #[.agg #[.int .i64 b2, .int .i64 c1, .int .u64 c8, .int .i64 ci, .int .i64 cq, .int .i64 b7, .slice bf bl bo, .int .u64 cu, .int .i64 au, .int .i64 bn, .int .u64 ce, .int .i64 cy, .int .i64 cz, .int .i64 bk, .slice b9 bh bq, .int .u64 cg], .agg #[.int .i64 az, .int .i64 bv, .int .u64 c6, .int .i64 ch, .int .i64 cl, .int .i64 bj, .slice b5 ba bm, .int .u64 cf, .int .i64 ao, .int .i64 br, .int .u64 cc, .int .i64 ct, .int .i64 cp, .int .i64 c2, .slice bp bs bc, .int .u64 cr]] dd fun d6 d2 => ∃ (cm : Bool), d6 = .returned (.bool cm) ∧
 bif !cm then (
 R (.bool false) d2) else (
 almL.J4 df ae I2 dg co cs dc dh R d2))

abbrev almL.J6 (ab : Bool) (ah : Int) (I0 : Nat → List Value → World → Prop) (ak : Nat) (a1 : Option Addr) (aj ai : World) (R : RW) (af : World) : Prop :=
 Calls Try.prog 12 #[.pointer a1] af fun ae ad => ∃ (a2 : Option Addr) (a0 a3 : Nat), ae = .returned (.slice a2 a0 a3) ∧
 ∃ (I2 : Nat → List Value → World → Prop) (ag : Nat), I2 ag [.int .i64 0, .int .i64 0] ad ∧ ∀ (a9 : Nat) (a5 : World) (a8 a4 : Int), I2 a9 [.int .i64 a8, .int .i64 a4] a5 →
 bif decide (a4 < 8) then (
 almL.J5 a8 a4 I2 a9 a1 a2 a0 aj ai R a5) else (
 Calls Try.prog 16 #[.pointer a1] a5 fun ac a6 => ∃ (a7 : Bool), ac = .returned (.bool a7) ∧
 bif !(a7 == ab) then (
 R (.bool false) a6) else (
 bif a8 != (a0 : Int) then (
 R (.bool false) a6) else (
 ∃ aa, aa < ak ∧ I0 aa [.bool ab, .int .i64 (IntKind.i64.wrap (ah + 1))] a6)))

abbrev almL.J7 (be : Int) (ar : Addr) (bd : Bool) (b1 : Int) (I0 : Nat → List Value → World → Prop) (bf : Nat) (a5 : Option Addr) (a1 au : World) (R : RW) (a4 : World) : Prop :=
 bif be == 0 then (
 ∃ (a3 : Int), a4.cell? ((ar.add 0).add 0) = some (.int .i64 a3) ∧
 0 ≤ (a3 : Int) ∧ (a3 : Int) < (8 : Int) ∧
 ∃ (bb : Bool), a4.cell? ((blk au.heap.size).add (Int.toNat a3 * 1)) = some (.bool bb) ∧
 bif !bb then (
 ∃ (a2 : Int), a4.cell? ((ar.add 0).add 0) = some (.int .i64 a2) ∧
 0 ≤ (a2 : Int) ∧ (a2 : Int) < (8 : Int) ∧
 Q06 a4 (((blk au.heap.size).add (Int.toNat a2 * 1)).add 0) ∧
 thenW (a4.setCell (((blk au.heap.size).add (Int.toNat a2 * 1)).add 0) (.bool true)) fun aq =>
 ∃ (a0 : Int), aq.cell? ((ar.add 0).add 0) = some (.int .i64 a0) ∧
 ∃ (a7 a8 ai ap am ab : Int) (aa : Option Addr) (ah ad : Nat) (ao a6 ae aj al an af : Int) (a9 : Option Addr) (ag ac : Nat) (ak : Int), cellsAt aq ar [.int .i64 a7, .int .i64 a8, .int .u64 ai, .int .i64 ap, .int .i64 am, .int .i64 ab, .slice aa ah ad, .int .u64 ao, .int .i64 a6, .int .i64 ae, .int .u64 aj, .int .i64 al, .int .i64 an, .int .i64 af, .slice a9 ag ac, .int .u64 ak] 0 ∧
 0 ≤ (a0 : Int) ∧ (a0 : Int) < (8 : Int) ∧
 Q06 aq (((blk a1.heap.size).add (Int.toNat a0 * 16)).add 0) ∧
 thenW (aq.setCell (((blk a1.heap.size).add (Int.toNat a0 * 16)).add 0) (.int .i64 a7)) fun b4 =>
 Q06 b4 (((blk a1.heap.size).add (Int.toNat a0 * 16)).add 1) ∧
 thenW (b4.setCell (((blk a1.heap.size).add (Int.toNat a0 * 16)).add 1) (.int .i64 a8)) fun ay =>
 Q06 ay (((blk a1.heap.size).add (Int.toNat a0 * 16)).add 2) ∧
 thenW (ay.setCell (((blk a1.heap.size).add (Int.toNat a0 * 16)).add 2) (.int .u64 ai)) fun ba =>
 Q06 ba (((blk a1.heap.size).add (Int.toNat a0 * 16)).add 3) ∧
 thenW (ba.setCell (((blk a1.heap.size).add (Int.toNat a0 * 16)).add 3) (.int .i64 ap)) fun b8 =>
 Q06 b8 (((blk a1.heap.size).add (Int.toNat a0 * 16)).add 4) ∧
 thenW (b8.setCell (((blk a1.heap.size).add (Int.toNat a0 * 16)).add 4) (.int .i64 am)) fun ax =>
 Q06 ax (((blk a1.heap.size).add (Int.toNat a0 * 16)).add 5) ∧
 thenW (ax.setCell (((blk a1.heap.size).add (Int.toNat a0 * 16)).add 5) (.int .i64 ab)) fun aw =>
 Q06 aw (((blk a1.heap.size).add (Int.toNat a0 * 16)).add 6) ∧
 thenW (aw.setCell (((blk a1.heap.size).add (Int.toNat a0 * 16)).add 6) (.slice aa ah ad)) fun av =>
 Q06 av (((blk a1.heap.size).add (Int.toNat a0 * 16)).add 7) ∧
 thenW (av.setCell (((blk a1.heap.size).add (Int.toNat a0 * 16)).add 7) (.int .u64 ao)) fun b9 =>
 Q06 b9 (((blk a1.heap.size).add (Int.toNat a0 * 16)).add 8) ∧
 thenW (b9.setCell (((blk a1.heap.size).add (Int.toNat a0 * 16)).add 8) (.int .i64 a6)) fun b2 =>
 Q06 b2 (((blk a1.heap.size).add (Int.toNat a0 * 16)).add 9) ∧
 thenW (b2.setCell (((blk a1.heap.size).add (Int.toNat a0 * 16)).add 9) (.int .i64 ae)) fun b7 =>
 Q06 b7 (((blk a1.heap.size).add (Int.toNat a0 * 16)).add 10) ∧
 thenW (b7.setCell (((blk a1.heap.size).add (Int.toNat a0 * 16)).add 10) (.int .u64 aj)) fun b5 =>
 Q06 b5 (((blk a1.heap.size).add (Int.toNat a0 * 16)).add 11) ∧
 thenW (b5.setCell (((blk a1.heap.size).add (Int.toNat a0 * 16)).add 11) (.int .i64 al)) fun b0 =>
 Q06 b0 (((blk a1.heap.size).add (Int.toNat a0 * 16)).add 12) ∧
 thenW (b0.setCell (((blk a1.heap.size).add (Int.toNat a0 * 16)).add 12) (.int .i64 an)) fun b3 =>
 Q06 b3 (((blk a1.heap.size).add (Int.toNat a0 * 16)).add 13) ∧
 thenW (b3.setCell (((blk a1.heap.size).add (Int.toNat a0 * 16)).add 13) (.int .i64 af)) fun b6 =>
 Q06 b6 (((blk a1.heap.size).add (Int.toNat a0 * 16)).add 14) ∧
 thenW (b6.setCell (((blk a1.heap.size).add (Int.toNat a0 * 16)).add 14) (.slice a9 ag ac)) fun az =>
 Q06 az (((blk a1.heap.size).add (Int.toNat a0 * 16)).add 15) ∧
 thenW (az.setCell (((blk a1.heap.size).add (Int.toNat a0 * 16)).add 15) (.int .u64 ak)) fun bc =>
 almL.J3 b1 I0 bf a5 a1 au R bc) else (
 almL.J3 b1 I0 bf a5 a1 au R a4)) else (
 almL.J6 bd b1 I0 bf a5 a1 au R a4)

abbrev almL.J8 (be : Addr) (bk : Bool) (bj : Int) (I0 : Nat → List Value → World → Prop) (bl : Nat) (bb ao : Option Addr) (b9 : Int) (bi bh : World) (R : RW) (ba : World) : Prop :=
 ∃ (a3 ai aq b4 b0 ab : Int) (af : Option Addr) (aa a5 : Nat) (az a2 a9 av b6 ax a8 : Int) (ae : Option Addr) (am ad : Nat) (b2 : Int), cellsAt ba be [.int .i64 a3, .int .i64 ai, .int .u64 aq, .int .i64 b4, .int .i64 b0, .int .i64 ab, .slice af aa a5, .int .u64 az, .int .i64 a2, .int .i64 a9, .int .u64 av, .int .i64 b6, .int .i64 ax, .int .i64 a8, .slice ae am ad, .int .u64 b2] 0 ∧
 Calls Try.prog 10 #[.pointer ao, .pointer bb, .int .u64 b9, .agg #[.int .i64 a3, .int .i64 ai, .int .u64 aq, .int .i64 b4, .int .i64 b0, .int .i64 ab, .slice af aa a5, .int .u64 az, .int .i64 a2, .int .i64 a9, .int .u64 av, .int .i64 b6, .int .i64 ax, .int .i64 a8, .slice ae am ad, .int .u64 b2]] ba fun bg bd => ∃ (ap : Int), bg = .returned (.int .i64 ap) ∧
 ∃ (a0 an au ay b5 a7 : Int) (a4 : Option Addr) (ac ag : Nat) (b7 a1 aj ar b1 b3 al : Int) (ak : Option Addr) (ah a6 : Nat) (b8 : Int), cellsAt bd be [.int .i64 a0, .int .i64 an, .int .u64 au, .int .i64 ay, .int .i64 b5, .int .i64 a7, .slice a4 ac ag, .int .u64 b7, .int .i64 a1, .int .i64 aj, .int .u64 ar, .int .i64 b1, .int .i64 b3, .int .i64 al, .slice ak ah a6, .int .u64 b8] 0 ∧
 Calls Try.prog 11 #[.pointer bb, .int .u64 b9, .agg #[.int .i64 a0, .int .i64 an, .int .u64 au, .int .i64 ay, .int .i64 b5, .int .i64 a7, .slice a4 ac ag, .int .u64 b7, .int .i64 a1, .int .i64 aj, .int .u64 ar, .int .i64 b1, .int .i64 b3, .int .i64 al, .slice ak ah a6, .int .u64 b8]] bd fun bf bc => ∃ (aw : Int), bf = .returned (.int .i64 aw) ∧
 bif ap != aw then (
 R (.bool false) bc) else (
 almL.J7 ap be bk bj I0 bl ao bi bh R bc)

abbrev almL.J9 (a0 : Addr) (be : Bool) (bi : Int) (I0 : Nat → List Value → World → Prop) (bj : Nat) (az a3 : Option Addr) (bb ax : Int) (bd bc : World) (R : RW) (b9 : World) : Prop :=
 ∃ (a2 ae aj ap am aa : Int) (a4 : Option Addr) (a9 a6 : Nat) (ao : Int), cellsAt b9 (a0.add 8) [.int .i64 a2, .int .i64 ae, .int .u64 aj, .int .i64 ap, .int .i64 am, .int .i64 aa, .slice a4 a9 a6, .int .u64 ao] 0 ∧
 Calls Try.prog 9 #[.pointer az, .int .u64 bb, .agg #[.int .i64 a2, .int .i64 ae, .int .u64 aj, .int .i64 ap, .int .i64 am, .int .i64 aa, .slice a4 a9 a6, .int .u64 ao]] b9 fun bf b1 => ∃ (a5 ak an ay b2 ag : Int) (ai : Option Addr) (af ah : Nat) (b0 au : Int), bf = .returned (.tuple #[.agg #[.int .i64 a5, .int .i64 ak, .int .u64 an, .int .i64 ay, .int .i64 b2, .int .i64 ag, .slice ai af ah, .int .u64 b0], .int .i64 au]) ∧
 thenW (b1.alloc (.cells #[.int .i64 0, .int .i64 0, .int .u64 0, .int .i64 0, .int .i64 0, .int .i64 0, .slice none 0 0, .int .u64 0] 36)) fun bg =>
 putsK bg (blk b1.heap.size) [.int .i64 a5, .int .i64 ak, .int .u64 an, .int .i64 ay, .int .i64 b2, .int .i64 ag, .slice ai af ah, .int .u64 b0] 0 fun av =>
 bif au == 0 then (
 ∃ (a1 ab al aw ar ac : Int) (a7 : Option Addr) (a8 ad : Nat) (aq : Int), cellsAt av (blk b1.heap.size) [.int .i64 a1, .int .i64 ab, .int .u64 al, .int .i64 aw, .int .i64 ar, .int .i64 ac, .slice a7 a8 ad, .int .u64 aq] 0 ∧
 Q06 av ((a0.add 8).add 0) ∧
 thenW (av.setCell ((a0.add 8).add 0) (.int .i64 a1)) fun b6 =>
 Q06 b6 ((a0.add 8).add 1) ∧
 thenW (b6.setCell ((a0.add 8).add 1) (.int .i64 ab)) fun b5 =>
 Q06 b5 ((a0.add 8).add 2) ∧
 thenW (b5.setCell ((a0.add 8).add 2) (.int .u64 al)) fun b4 =>
 Q06 b4 ((a0.add 8).add 3) ∧
 thenW (b4.setCell ((a0.add 8).add 3) (.int .i64 aw)) fun ba =>
 Q06 ba ((a0.add 8).add 4) ∧
 thenW (ba.setCell ((a0.add 8).add 4) (.int .i64 ar)) fun b3 =>
 Q06 b3 ((a0.add 8).add 5) ∧
 thenW (b3.setCell ((a0.add 8).add 5) (.int .i64 ac)) fun b7 =>
 Q06 b7 ((a0.add 8).add 6) ∧
 thenW (b7.setCell ((a0.add 8).add 6) (.slice a7 a8 ad)) fun b8 =>
 Q06 b8 ((a0.add 8).add 7) ∧
 thenW (b8.setCell ((a0.add 8).add 7) (.int .u64 aq)) fun bh =>
 almL.J8 a0 be bi I0 bj az a3 ax bd bc R bh) else (
 almL.J8 a0 be bi I0 bj az a3 ax bd bc R av)

abbrev almL.J10 (a0 : Addr) (bg : Bool) (bh : Int) (I0 : Nat → List Value → World → Prop) (bj : Nat) (b1 a1 : Option Addr) (am az : Int) (bd bc : World) (R : RW) (b9 : World) : Prop :=
 ∃ (a3 ad aj ax av ac : Int) (a4 : Option Addr) (a7 ae : Nat) (au : Int), cellsAt b9 (a0.add 0) [.int .i64 a3, .int .i64 ad, .int .u64 aj, .int .i64 ax, .int .i64 av, .int .i64 ac, .slice a4 a7 ae, .int .u64 au] 0 ∧
 Calls Try.prog 9 #[.pointer b1, .int .u64 am, .agg #[.int .i64 a3, .int .i64 ad, .int .u64 aj, .int .i64 ax, .int .i64 av, .int .i64 ac, .slice a4 a7 ae, .int .u64 au]] b9 fun bi b3 => ∃ (a6 ai ao b2 ay al : Int) (af : Option Addr) (ak ah : Nat) (b0 an : Int), bi = .returned (.tuple #[.agg #[.int .i64 a6, .int .i64 ai, .int .u64 ao, .int .i64 b2, .int .i64 ay, .int .i64 al, .slice af ak ah, .int .u64 b0], .int .i64 an]) ∧
 thenW (b3.alloc (.cells #[.int .i64 0, .int .i64 0, .int .u64 0, .int .i64 0, .int .i64 0, .int .i64 0, .slice none 0 0, .int .u64 0] 36)) fun bf =>
 putsK bf (blk b3.heap.size) [.int .i64 a6, .int .i64 ai, .int .u64 ao, .int .i64 b2, .int .i64 ay, .int .i64 al, .slice af ak ah, .int .u64 b0] 0 fun aq =>
 bif an == 0 then (
 ∃ (a2 ab ag ar aw aa : Int) (a5 : Option Addr) (a8 a9 : Nat) (ap : Int), cellsAt aq (blk b3.heap.size) [.int .i64 a2, .int .i64 ab, .int .u64 ag, .int .i64 ar, .int .i64 aw, .int .i64 aa, .slice a5 a8 a9, .int .u64 ap] 0 ∧
 Q06 aq ((a0.add 0).add 0) ∧
 thenW (aq.setCell ((a0.add 0).add 0) (.int .i64 a2)) fun b5 =>
 Q06 b5 ((a0.add 0).add 1) ∧
 thenW (b5.setCell ((a0.add 0).add 1) (.int .i64 ab)) fun bb =>
 Q06 bb ((a0.add 0).add 2) ∧
 thenW (bb.setCell ((a0.add 0).add 2) (.int .u64 ag)) fun b8 =>
 Q06 b8 ((a0.add 0).add 3) ∧
 thenW (b8.setCell ((a0.add 0).add 3) (.int .i64 ar)) fun b7 =>
 Q06 b7 ((a0.add 0).add 4) ∧
 thenW (b7.setCell ((a0.add 0).add 4) (.int .i64 aw)) fun b4 =>
 Q06 b4 ((a0.add 0).add 5) ∧
 thenW (b4.setCell ((a0.add 0).add 5) (.int .i64 aa)) fun ba =>
 Q06 ba ((a0.add 0).add 6) ∧
 thenW (ba.setCell ((a0.add 0).add 6) (.slice a5 a8 a9)) fun b6 =>
 Q06 b6 ((a0.add 0).add 7) ∧
 thenW (b6.setCell ((a0.add 0).add 7) (.int .u64 ap)) fun be =>
 almL.J9 a0 bg bh I0 bj b1 a1 am az bd bc R be) else (
 almL.J9 a0 bg bh I0 bj b1 a1 am az bd bc R aq)

abbrev almL.J11 (a0 : Addr) (bb : Bool) (bc : Int) (I0 : Nat → List Value → World → Prop) (bj : Nat) (b7 a9 : Option Addr) (bg b2 : Int) (bi bh : World) (R : RW) (b1 : World) : Prop :=
 ∃ (a2 a4 ah an au ab : Int) (a7 : Option Addr) (aa ae : Nat) (ar : Int), cellsAt b1 (a0.add 8) [.int .i64 a2, .int .i64 a4, .int .u64 ah, .int .i64 an, .int .i64 au, .int .i64 ab, .slice a7 aa ae, .int .u64 ar] 0 ∧
 Calls Try.prog 9 #[.pointer b7, .int .u64 bg, .agg #[.int .i64 a2, .int .i64 a4, .int .u64 ah, .int .i64 an, .int .i64 au, .int .i64 ab, .slice a7 aa ae, .int .u64 ar]] b1 fun bf ax => ∃ (a3 ai av az b0 ak : Int) (af : Option Addr) (al aj : Nat) (ay aq : Int), bf = .returned (.tuple #[.agg #[.int .i64 a3, .int .i64 ai, .int .u64 av, .int .i64 az, .int .i64 b0, .int .i64 ak, .slice af al aj, .int .u64 ay], .int .i64 aq]) ∧
 thenW (ax.alloc (.cells #[.int .i64 0, .int .i64 0, .int .u64 0, .int .i64 0, .int .i64 0, .int .i64 0, .slice none 0 0, .int .u64 0] 36)) fun bd =>
 putsK bd (blk ax.heap.size) [.int .i64 a3, .int .i64 ai, .int .u64 av, .int .i64 az, .int .i64 b0, .int .i64 ak, .slice af al aj, .int .u64 ay] 0 fun am =>
 bif aq == 0 then (
 ∃ (a1 ac ag aw ao ad : Int) (a8 : Option Addr) (a5 a6 : Nat) (ap : Int), cellsAt am (blk ax.heap.size) [.int .i64 a1, .int .i64 ac, .int .u64 ag, .int .i64 aw, .int .i64 ao, .int .i64 ad, .slice a8 a5 a6, .int .u64 ap] 0 ∧
 Q06 am ((a0.add 8).add 0) ∧
 thenW (am.setCell ((a0.add 8).add 0) (.int .i64 a1)) fun b3 =>
 Q06 b3 ((a0.add 8).add 1) ∧
 thenW (b3.setCell ((a0.add 8).add 1) (.int .i64 ac)) fun b9 =>
 Q06 b9 ((a0.add 8).add 2) ∧
 thenW (b9.setCell ((a0.add 8).add 2) (.int .u64 ag)) fun b8 =>
 Q06 b8 ((a0.add 8).add 3) ∧
 thenW (b8.setCell ((a0.add 8).add 3) (.int .i64 aw)) fun b6 =>
 Q06 b6 ((a0.add 8).add 4) ∧
 thenW (b6.setCell ((a0.add 8).add 4) (.int .i64 ao)) fun ba =>
 Q06 ba ((a0.add 8).add 5) ∧
 thenW (ba.setCell ((a0.add 8).add 5) (.int .i64 ad)) fun b5 =>
 Q06 b5 ((a0.add 8).add 6) ∧
 thenW (b5.setCell ((a0.add 8).add 6) (.slice a8 a5 a6)) fun b4 =>
 Q06 b4 ((a0.add 8).add 7) ∧
 thenW (b4.setCell ((a0.add 8).add 7) (.int .u64 ap)) fun be =>
 almL.J8 a0 bb bc I0 bj b7 a9 b2 bi bh R be) else (
 almL.J8 a0 bb bc I0 bj b7 a9 b2 bi bh R am)

abbrev almL.J12 (bj : Bool) (a0 : Addr) (b6 : Bool) (bb : Int) (I0 : Nat → List Value → World → Prop) (bk : Nat) (b3 a1 : Option Addr) (b0 ax : Int) (bf be : World) (R : RW) (az : World) : Prop :=
 bif bj then (
 ∃ (a2 ad ak ar au a7 : Int) (a6 : Option Addr) (ac ab : Nat) (ao : Int), cellsAt az (a0.add 0) [.int .i64 a2, .int .i64 ad, .int .u64 ak, .int .i64 ar, .int .i64 au, .int .i64 a7, .slice a6 ac ab, .int .u64 ao] 0 ∧
 Calls Try.prog 9 #[.pointer b3, .int .u64 b0, .agg #[.int .i64 a2, .int .i64 ad, .int .u64 ak, .int .i64 ar, .int .i64 au, .int .i64 a7, .slice a6 ac ab, .int .u64 ao]] az fun bg ay => ∃ (a5 ah aq b4 b1 af : Int) (ag : Option Addr) (ai aj : Nat) (b2 aw : Int), bg = .returned (.tuple #[.agg #[.int .i64 a5, .int .i64 ah, .int .u64 aq, .int .i64 b4, .int .i64 b1, .int .i64 af, .slice ag ai aj, .int .u64 b2], .int .i64 aw]) ∧
 thenW (ay.alloc (.cells #[.int .i64 0, .int .i64 0, .int .u64 0, .int .i64 0, .int .i64 0, .int .i64 0, .slice none 0 0, .int .u64 0] 36)) fun bi =>
 putsK bi (blk ay.heap.size) [.int .i64 a5, .int .i64 ah, .int .u64 aq, .int .i64 b4, .int .i64 b1, .int .i64 af, .slice ag ai aj, .int .u64 b2] 0 fun am =>
 bif aw == 0 then (
 ∃ (a3 a4 al ap an ae : Int) (a8 : Option Addr) (a9 aa : Nat) (av : Int), cellsAt am (blk ay.heap.size) [.int .i64 a3, .int .i64 a4, .int .u64 al, .int .i64 ap, .int .i64 an, .int .i64 ae, .slice a8 a9 aa, .int .u64 av] 0 ∧
 Q06 am ((a0.add 0).add 0) ∧
 thenW (am.setCell ((a0.add 0).add 0) (.int .i64 a3)) fun b5 =>
 Q06 b5 ((a0.add 0).add 1) ∧
 thenW (b5.setCell ((a0.add 0).add 1) (.int .i64 a4)) fun bd =>
 Q06 bd ((a0.add 0).add 2) ∧
 thenW (bd.setCell ((a0.add 0).add 2) (.int .u64 al)) fun b8 =>
 Q06 b8 ((a0.add 0).add 3) ∧
 thenW (b8.setCell ((a0.add 0).add 3) (.int .i64 ap)) fun b7 =>
 Q06 b7 ((a0.add 0).add 4) ∧
 thenW (b7.setCell ((a0.add 0).add 4) (.int .i64 an)) fun b9 =>
 Q06 b9 ((a0.add 0).add 5) ∧
 thenW (b9.setCell ((a0.add 0).add 5) (.int .i64 ae)) fun bc =>
 Q06 bc ((a0.add 0).add 6) ∧
 thenW (bc.setCell ((a0.add 0).add 6) (.slice a8 a9 aa)) fun ba =>
 Q06 ba ((a0.add 0).add 7) ∧
 thenW (ba.setCell ((a0.add 0).add 7) (.int .u64 av)) fun bh =>
 almL.J11 a0 b6 bb I0 bk b3 a1 b0 ax bf be R bh) else (
 almL.J11 a0 b6 bb I0 bk b3 a1 b0 ax bf be R am)) else (
 almL.J8 a0 b6 bb I0 bk b3 a1 ax bf be R az)

abbrev almL.J13 (a7 : Addr) (ab : Bool) (a1 : Int) (I0 : Nat → List Value → World → Prop) (ae : Option Addr) (ac ad : Nat) (a5 a0 : Option Addr) (a2 a4 : Int) (aa a9 : World) (R : RW) (a3 : World) : Prop :=
 bif decide (a1 ≥ (ac : Int)) then (
 almL.J10 a7 ab a1 I0 ad a5 a0 a2 a4 aa a9 R a3) else (
 ae.elim False fun a8 =>
 0 ≤ (a1 : Int) ∧ (a1 : Int) < (ac : Int) ∧
 ∃ (a6 : Int), a3.cell? (a8.add (Int.toNat a1 * 1)) = some (.int .i64 a6) ∧
 almL.J12 (a6 != 0) a7 ab a1 I0 ad a5 a0 a2 a4 aa a9 R a3)

abbrev almL.J14 (az : Bool) (ak : Int) (I0 : Nat → List Value → World → Prop) (b0 : Option Addr) (b1 : Nat) (b3 : Option Addr) (b2 b4 : Nat) (av am : Option Addr) (ap ao : Int) (ay ax : World) (R : RW) (au : World) : Prop :=
 thenW (au.drew) fun al =>
 b0.elim False fun ar =>
 0 ≤ (ak : Int) ∧ (ak : Int) < (b1 : Int) ∧
 ∃ (a0 a6 ac ai aj a4 : Int) (a2 : Option Addr) (ab aa : Nat) (ag : Int), cellsAt al ((ar.add (Int.toNat ak * 16)).add 0) [.int .i64 a0, .int .i64 a6, .int .u64 ac, .int .i64 ai, .int .i64 aj, .int .i64 a4, .slice a2 ab aa, .int .u64 ag] 0 ∧
 b0.elim False fun aw =>
 0 ≤ (ak : Int) ∧ (ak : Int) < (b1 : Int) ∧
 ∃ (a1 a5 ad ah af a7 : Int) (a8 : Option Addr) (a9 a3 : Nat) (ae : Int), cellsAt al ((aw.add (Int.toNat ak * 16)).add 8) [.int .i64 a1, .int .i64 a5, .int .u64 ad, .int .i64 ah, .int .i64 af, .int .i64 a7, .slice a8 a9 a3, .int .u64 ae] 0 ∧
 thenW (al.alloc (.cells #[.int .i64 0, .int .i64 0, .int .u64 0, .int .i64 0, .int .i64 0, .int .i64 0, .slice none 0 0, .int .u64 0, .int .i64 0, .int .i64 0, .int .u64 0, .int .i64 0, .int .i64 0, .int .i64 0, .slice none 0 0, .int .u64 0] 38)) fun an =>
 cellsAt an ((aw.add (Int.toNat ak * 16)).add 8) [.int .i64 a1, .int .i64 a5, .int .u64 ad, .int .i64 ah, .int .i64 af, .int .i64 a7, .slice a8 a9 a3, .int .u64 ae] 0 ∧
 cellsAt an ((ar.add (Int.toNat ak * 16)).add 0) [.int .i64 a0, .int .i64 a6, .int .u64 ac, .int .i64 ai, .int .i64 aj, .int .i64 a4, .slice a2 ab aa, .int .u64 ag] 0 ∧
 putsK an (blk al.heap.size) [.int .i64 a0, .int .i64 a6, .int .u64 ac, .int .i64 ai, .int .i64 aj, .int .i64 a4, .slice a2 ab aa, .int .u64 ag, .int .i64 a1, .int .i64 a5, .int .u64 ad, .int .i64 ah, .int .i64 af, .int .i64 a7, .slice a8 a9 a3, .int .u64 ae] 0 fun aq =>
 almL.J13 (blk al.heap.size) az ak I0 b3 b2 b4 av am ap ao ay ax R aq

abbrev almL.J15 (b7 : Bool) (ap : Int) (I0 : Nat → List Value → World → Prop) (aw : Option Addr) (b2 : Nat) (b9 : Option Addr) (b5 b8 : Nat) (au ac : Option Addr) (aq ao : Int) (ax av : World) (R : RW) (az : World) : Prop :=
 thenW (az.drew) fun an =>
 aw.elim False fun b6 =>
 0 ≤ (ap : Int) ∧ (ap : Int) < (b2 : Int) ∧
 ∃ (a0 a4 ae al am a8 : Int) (ab : Option Addr) (a7 a9 : Nat) (ak : Int), cellsAt an ((b6.add (Int.toNat ap * 16)).add 0) [.int .i64 a0, .int .i64 a4, .int .u64 ae, .int .i64 al, .int .i64 am, .int .i64 a8, .slice ab a7 a9, .int .u64 ak] 0 ∧
 aw.elim False fun b4 =>
 0 ≤ (ap : Int) ∧ (ap : Int) < (b2 : Int) ∧
 ∃ (a1 a2 af ah ai a6 : Int) (a5 : Option Addr) (aa a3 : Nat) (aj : Int), cellsAt an ((b4.add (Int.toNat ap * 16)).add 8) [.int .i64 a1, .int .i64 a2, .int .u64 af, .int .i64 ah, .int .i64 ai, .int .i64 a6, .slice a5 aa a3, .int .u64 aj] 0 ∧
 thenW (an.alloc (.cells #[.int .i64 a0, .int .i64 a4, .int .u64 ae, .int .i64 al, .int .i64 am, .int .i64 a8, .slice ab a7 a9, .int .u64 ak, .int .i64 a1, .int .i64 a2, .int .u64 af, .int .i64 ah, .int .i64 ai, .int .i64 a6, .slice a5 aa a3, .int .u64 aj] 36)) fun b1 =>
 Calls Try.prog 8 #[.slice (some (blk an.heap.size)) 2 2] b1 fun ay ar => ∃ (ag : Bool), ay = .returned (.bool ag) ∧
 bif !ag then (
 Calls Try.prog 4 #[] ar fun b0 b3 => ∃ (ad : Bool), b0 = .returned (.bool ad) ∧
 R (.bool ad) b3) else (
 almL.J14 b7 ap I0 aw b2 b9 b5 b8 au ac aq ao ax av R ar)

abbrev almL.J16 (bn : Option Addr) (bl : Nat) (bp : Option Addr) (bo : Nat) (R : RW) (bg : World) : Prop :=
 Calls Try.prog 5 #[.slice none 0 0] bg fun bi bf => ∃ (au : Option Addr), bi = .returned (.pointer au) ∧
 Calls Try.prog 6 #[.pointer au] bf fun bd bj => ∃ (b0 ar : Int), bd = .returned (.tuple #[.int .u64 b0, .int .u64 ar]) ∧
 Calls Try.prog 7 #[] bj fun bk bb => ∃ (ad : Option Addr), bk = .returned (.pointer ad) ∧
 thenW (bb.alloc (.cells (List.toArray ([.int .i64 0, .int .i64 0, .int .u64 0, .int .i64 0, .int .i64 0, .int .i64 0, .slice none 0 0, .int .u64 0, .int .i64 0, .int .i64 0, .int .u64 0, .int .i64 0, .int .i64 0, .int .i64 0, .slice none 0 0, .int .u64 0, .int .i64 0, .int .i64 0, .int .u64 0, .int .i64 0, .int .i64 0, .int .i64 0, .slice none 0 0, .int .u64 0, .int .i64 0, .int .i64 0, .int .u64 0, .int .i64 0, .int .i64 0, .int .i64 0, .slice none 0 0, .int .u64 0, .int .i64 0, .int .i64 0, .int .u64 0, .int .i64 0, .int .i64 0, .int .i64 0, .slice none 0 0, .int .u64 0, .int .i64 0, .int .i64 0, .int .u64 0, .int .i64 0, .int .i64 0, .int .i64 0, .slice none 0 0, .int .u64 0, .int .i64 0, .int .i64 0, .int .u64 0, .int .i64 0, .int .i64 0, .int .i64 0, .slice none 0 0, .int .u64 0, .int .i64 0, .int .i64 0, .int .u64 0, .int .i64 0, .int .i64 0, .int .i64 0, .slice none 0 0, .int .u64 0, .int .i64 0, .int .i64 0, .int .u64 0, .int .i64 0, .int .i64 0, .int .i64 0, .slice none 0 0, .int .u64 0, .int .i64 0, .int .i64 0, .int .u64 0, .int .i64 0, .int .i64 0, .int .i64 0, .slice none 0 0, .int .u64 0, .int .i64 0, .int .i64 0, .int .u64 0, .int .i64 0, .int .i64 0, .int .i64 0, .slice none 0 0, .int .u64 0, .int .i64 0, .int .i64 0, .int .u64 0, .int .i64 0, .int .i64 0, .int .i64 0, .slice none 0 0, .int .u64 0, .int .i64 0, .int .i64 0, .int .u64 0, .int .i64 0, .int .i64 0, .int .i64 0, .slice none 0 0, .int .u64 0, .int .i64 0, .int .i64 0, .int .u64 0, .int .i64 0, .int .i64 0, .int .i64 0, .slice none 0 0, .int .u64 0, .int .i64 0, .int .i64 0, .int .u64 0, .int .i64 0, .int .i64 0, .int .i64 0, .slice none 0 0, .int .u64 0, .int .i64 0, .int .i64 0, .int .u64 0, .int .i64 0, .int .i64 0, .int .i64 0, .slice none 0 0, .int .u64 0])) 39)) fun ba =>
 thenW (ba.alloc (.cells #[.bool false, .bool false, .bool false, .bool false, .bool false, .bool false, .bool false, .bool false] 40)) fun bh =>
 ∃ (I0 : Nat → List Value → World → Prop) (bq : Nat), I0 bq [.bool false, .int .i64 0] bh ∧ ∀ (bm : Nat) (b7 : World) (bc : Bool) (be : Int), I0 bm [.bool bc, .int .i64 be] b7 →
 bif decide (be < (bl : Int)) then (
 almL.J15 bc be I0 bn bl bp bo bm au ad b0 ar bb ba R b7) else (
 Calls Try.prog 13 #[.pointer none, .int .i64 0] b7 fun b2 ax => ∃ (a2 ac ae ai ao a4 : Int) (a9 : Option Addr) (a7 a8 : Nat) (ak a0 a6 ag al ap aa : Int) (a3 : Option Addr) (a5 ab : Nat) (an : Int) (aw : Bool), b2 = .returned (.tuple #[.agg #[.int .i64 a2, .int .i64 ac, .int .u64 ae, .int .i64 ai, .int .i64 ao, .int .i64 a4, .slice a9 a7 a8, .int .u64 ak, .int .i64 a0, .int .i64 a6, .int .u64 ag, .int .i64 al, .int .i64 ap, .int .i64 aa, .slice a3 a5 ab, .int .u64 an], .bool aw]) ∧
 thenW (ax.alloc (.cells #[.int .i64 0, .int .i64 0, .int .u64 0, .int .i64 0, .int .i64 0, .int .i64 0, .slice none 0 0, .int .u64 0, .int .i64 0, .int .i64 0, .int .u64 0, .int .i64 0, .int .i64 0, .int .i64 0, .slice none 0 0, .int .u64 0] 38)) fun b3 =>
 putsK b3 (blk ax.heap.size) [.int .i64 a2, .int .i64 ac, .int .u64 ae, .int .i64 ai, .int .i64 ao, .int .i64 a4, .slice a9 a7 a8, .int .u64 ak, .int .i64 a0, .int .i64 a6, .int .u64 ag, .int .i64 al, .int .i64 ap, .int .i64 aa, .slice a3 a5 ab, .int .u64 an] 0 fun b1 =>
 Calls Try.prog 10 #[.pointer none, .pointer au, .int .u64 ar, .agg #[.int .i64 0, .int .i64 0, .int .u64 0, .int .i64 0, .int .i64 0, .int .i64 0, .slice none 0 0, .int .u64 0, .int .i64 0, .int .i64 0, .int .u64 0, .int .i64 0, .int .i64 0, .int .i64 0, .slice none 0 0, .int .u64 0]] b1 fun b6 av => ∃ (af : Int), b6 = .returned (.int .i64 af) ∧
 bif af == 23 then (
 Calls Try.prog 16 #[.pointer none] av fun b9 ay => ∃ (az : Bool), b9 = .returned (.bool az) ∧
 bif !az then (
 Calls Try.prog 12 #[.pointer none] ay fun b4 aq => ∃ (aj : Option Addr) (a1 am : Nat), b4 = .returned (.slice aj a1 am) ∧
 bif (a1 : Int) == 0 then (
 bif !aw then (
 Calls Try.prog 4 #[] aq fun b5 b8 => ∃ (ah : Bool), b5 = .returned (.bool ah) ∧
 R (.bool ah) b8) else (
 R (.bool false) aq)) else (
 R (.bool false) aq)) else (
 R (.bool false) ay)) else (
 R (.bool false) av))

def almL.M (a7 : Option Addr) (a4 a8 : Nat) (a1 : Option Addr) (a2 a3 : Nat) (R : RW) (w : World) : Prop :=
 bif decide ((a4 : Int) > 20) then (
 Calls Try.prog 4 #[] w fun a6 a5 => ∃ (a0 : Bool), a6 = .returned (.bool a0) ∧
 R (.bool a0) a5) else (
 almL.J16 a7 a4 a1 a2 R w)

theorem almL.ok (a5 : Option Addr) (a4 a3 : Nat) (a0 : Option Addr) (a1 a2 : Nat) {R : RW} {w : World} (h : almL.M a5 a4 a3 a0 a1 a2 R w) : Calls Try.prog 3 #[.slice a5 a4 a3, .slice a0 a1 a2] w fun e w' => ∃ v, e = .returned v ∧ R v w' :=
  Q0m follows (H := [(0, [0, 1, 5, 6, 7, 8, 9, 10], [(11, (.one .bool)), (12, (.one (.int .i64)))]), (2, [0, 1, 5, 6, 7, 8, 9, 10, 11, 12, 20], [(19, (.one (.int .i64))), (21, (.one (.int .i64)))])]) (args := [.slice a5 a4 a3, .slice a0 a1 a2]) (cast (by kernel_rfl) h)
set_option maxRecDepth 20000
set_option maxHeartbeats 4000000
section
variable {W w w' w0 w27 w28 : World} {o o' : Own} {k j q r n : Nat} {K : Nat → Prop} {S : OS} {al wl : AL}
structure AI (W : World) (k j q r : Nat) (S : OS) (n : Nat) (al wl : AL) (w : World) (o : Own) : Prop where
  st : Step no W (fun _ => none) w o
  p : POrc w o k S
  inv : OInv S
  len : S.used.length ≤ n
  alm : Alm w o j al
  wb : ∃ ws : List PP, Blk w q 39 (PP.Cs ws) ∧ ws.length = 8 ∧ (∀ x ∈ ws, x.ok w o) ∧ ∀ (i : Nat) (x : PP), ws[i]? = some x → x.p = atK wl i
  wo : o q = some q
  hb : Blk w r 40 (hasL wl)
  ho : o r = some r
  fin : Fine al
  fiw : Fine wl
structure Apart4 (W : World) (k j q r : Nat) : Prop where
  k0 : W.heap.size ≤ k
  j0 : W.heap.size ≤ j
  q0 : W.heap.size ≤ q
  r0 : W.heap.size ≤ r
  kj : k ≠ j
  kq : k ≠ q
  kr : k ≠ r
  jq : j ≠ q
  jr : j ≠ r
  qr : q ≠ r
theorem AI.step (h : AI W k j q r S n al wl w o) (s : Step K w o w' o') (hk : ∀ i, K i → i < w.heap.size → W.heap.size ≤ i ∧ i ≠ k ∧ i ≠ j ∧ i ≠ q ∧ i ≠ r) : AI W k j q r S n al wl w' o' := by
  obtain ⟨ws, w1, w2, w3, w4⟩ := h.wb
  have lq := w1.lt
  have lr := h.hb.lt
  have lk := h.p.lt
  have lj := h.alm.lt
  exact ⟨h.st.trans' (s.mono (K1 := fun i => K i ∧ i < w.heap.size) fun i hi hl => ⟨hi, hl⟩) fun i hi => .inr (hk i hi.1 hi.2).1, h.p.step s fun hi => (hk k hi lk).2.1 rfl, h.inv, h.len, h.alm.step s fun hi => (hk j hi lj).2.2.1 rfl,
    ⟨ws, s.blk w1 h.wo fun hi => (hk q hi lq).2.2.2.1 rfl, w2, fun x hx => (w3 x hx).step s, w4⟩, (s.own lq).trans h.wo, s.blk h.hb h.ho fun hi => (hk r hi lr).2.2.2.2 rfl, (s.own lr).trans h.ho, h.fin, h.fiw⟩
theorem AI.step0 (h : AI W k j q r S n al wl w o) (s : Step no w o w' o') : AI W k j q r S n al wl w' o' := h.step s fun i hi => hi.elim
theorem AI.more {m : Nat} (h : AI W k j q r S n al wl w o) (hm : n ≤ m) : AI W k j q r S m al wl w o := ⟨h.st, h.p, h.inv, Nat.le_trans h.len hm, h.alm, h.wb, h.wo, h.hb, h.ho, h.fin, h.fiw⟩
theorem Q1e {t : TypeId} {vs u : List Value} {Φ : World → Prop} (e : w = w0.alloc (.cells u.toArray t)) (hl : vs.length = u.length) (h : ∀ w', Ext no w0 w' → Blk w' w0.heap.size t vs → Φ w') : putsK w (blk w0.heap.size) vs 0 Φ := by
  have X : Ext no w0 w := (Ext.refl _ _).x_alloc e
  have hb : Blk w w0.heap.size t u := Blk.of_new e
  have hz : (blk w0.heap.size) = (blk w0.heap.size).add 0 := (add_blk _ _).symm
  rw [hz]
  refine Q0G (k := 0) (j := 0) hb (by omega) fun w' X' hb' => h w' (X.x_puts X' (.inr (Nat.le_refl _))) ?_
  have := Q0P (vs := vs) (u := u) (cs := []) hl
  rw [List.append_nil, List.append_nil] at this
  rw [this] at hb'
  exact hb'
theorem Q1h {t : TypeId} {vs : List Value} (hb : Blk w q t vs) : cellsAt w (blk q) vs 0 := by
  have := Q18 (k := 0) hb vs 0 fun n v hv => by simpa using hv
  rwa [add_blk] at this
theorem Q2C {t : Nat} (h : Blk w r 40 (hasL wl)) (ht : t < 8) : w.cell? ((blk r).add (Int.toNat (t : Int) * 1)) = some (.bool (hasK wl t)) :=
  h.celli t (by rw [Int.toNat_natCast, Nat.mul_one, add_blk]) (Q4p ht)
theorem Q1D {ps : List PP} {ad : Addr} {t : Nat} {x : PP} (h : RowAt w (some ad) (PP.Cs ps)) (hx : ps[t]? = some x) : cellsAt w (ad.add (Int.toNat (t : Int) * 16)) x.C 0 := by
  rw [Int.toNat_natCast]
  exact RowAt.floads PP.len h hx
theorem back_spec' (p : PP) : Calls Try.prog 15 #[p.v] w (Ret p.v fun w' => Ext no w w') := Q3m
theorem same_spec' {p y : PP} (hp : p.ok w o) (hy : y.ok w o) (l1 : p.x.e.body.length < 1000000) (l2 : p.y.e.body.length < 1000000) : Calls Try.prog 14 #[p.v, y.v] w (Ret (.bool (decide (p.p = y.p))) fun w' => Ext no w w') :=
  Q3f hp.1.1 hp.2.1.1 hy.1.1 hy.2.1.1 l1 l2
theorem Q1R (F : Fine al) {p : PP} {t : Nat} (h : p.p = atK al t) : p.x.e.body.length < 1000000 ∧ p.y.e.body.length < 1000000 := by
  have hs : p.p.1.body.length < 1000000 ∧ p.p.2.body.length < 1000000 := by
    rw [h]; unfold atK
    cases hx : alook al (t : Int) with
    | none => exact ⟨by decide, by decide⟩
    | some v => have := F.sm _ (Q2Z hx); exact ⟨Nat.lt_of_le_of_lt this.1 (by decide), Nat.lt_of_le_of_lt this.2 (by decide)⟩
  exact hs
theorem alm_in {R : RW} {I2 : Nat → List Value → World → Prop} {m t : Nat} {pa : Option Addr} {ps : List PP} (h : AI W k j q r S n al al w o) (hrow : Row w o pa (PP.Cs ps)) (hok : ∀ p ∈ ps, p.ok w o) (hmap : ps.map PP.p = (inL al).map (atK al)) (ht : t < 8) (e27 : w27.heap.size = q) (e28 : w28.heap.size = r)
    (hI : ∀ w2 o2, Step no w o w2 o2 → ∃ m2, m2 < m ∧ I2 m2 [.int .i64 (cntK al (t + 1) : Int), .int .i64 ((t : Int) + 1)] w2) :
    almL.J5 (cntK al t) t I2 m (some (blk j)) pa ps.length w27 w28 R w := by
  have hc8 : cntK al t ≤ 8 := by
    have := cnt_le al t (by omega)
    have := List.length_filter_le (hasK al) (List.range 8)
    rw [List.length_range] at this
    unfold inL at *; omega
  subst e27 e28
  unfold almL.J5
  refine (Of_spec h.alm h.st.ok h.fin.slim (t : Int)).mono fun e w503 ⟨o503, p, he, s503, hp, pok⟩ => ⟨p.x.e.w, p.x.e.i, p.x.e.pv, p.x.e.t, p.x.e.tw, p.x.e.ep, p.x.a, p.x.e.body.length, p.x.c, p.x.e.sg, p.y.e.w, p.y.e.i, p.y.e.pv, p.y.e.t, p.y.e.tw, p.y.e.ep, p.y.a, p.y.e.body.length, p.y.c, p.y.e.sg, (alook al (t : Int)).isSome, he, Q01 fun w504 e504 => ?_⟩
  refine Q1e (vs := p.C) e504 rfl fun w505 X505 hb505 => Q01 fun w506 e506 => ?_
  have X506 : Ext no w503 w506 := X505.x_drew e506
  have s506 := Step.of_no X506 s503.ok
  have h506 := (h.step0 s503).step0 s506
  have pok506 := pok.step s506
  have hb506 := hb505.x_drew e506
  have hpt : p.p = atK al t := hp
  obtain ⟨ws, wb, wl8, wok, wp⟩ := id h506.wb
  obtain ⟨x, hx⟩ : ∃ x, ws[t]? = some x := ⟨_, List.getElem?_eq_getElem (by omega)⟩
  have hxt := wp t x hx
  have xok := wok x (List.mem_of_getElem? hx)
  refine ⟨by omega, by omega, hasK al t, Q2C h506.hb ht, ?_⟩
  rw [show (!((alook al (t : Int)).isSome == hasK al t)) = false by unfold hasK; simp, cond_false]
  refine ⟨p.x.e.w, p.x.e.i, p.x.e.pv, p.x.e.t, p.x.e.tw, p.x.e.ep, p.x.a, p.x.e.body.length, p.x.c, p.x.e.sg, p.y.e.w, p.y.e.i, p.y.e.pv, p.y.e.t, p.y.e.tw, p.y.e.ep, p.y.a, p.y.e.body.length, p.y.c, p.y.e.sg, Q1h hb506, by omega, by omega, x.x.e.w, x.x.e.i, x.x.e.pv, x.x.e.t, x.x.e.tw, x.x.e.ep, x.x.a, x.x.e.body.length, x.x.c, x.x.e.sg, x.y.e.w, x.y.e.i, x.y.e.pv, x.y.e.t, x.y.e.tw, x.y.e.ep, x.y.a, x.y.e.body.length, x.y.c, x.y.e.sg, Q1D (RowAt.of_blk wb) hx, ?_⟩
  refine (back_spec' p).mono fun e w557 ⟨he, X557⟩ => ⟨p.x.e.w, p.x.e.i, p.x.e.pv, p.x.e.t, p.x.e.tw, p.x.e.ep, p.x.a, p.x.e.body.length, p.x.c, p.x.e.sg, p.y.e.w, p.y.e.i, p.y.e.pv, p.y.e.t, p.y.e.tw, p.y.e.ep, p.y.a, p.y.e.body.length, p.y.c, p.y.e.sg, he, Q1K X557 (Q1D (RowAt.of_blk wb) hx), ?_⟩
  refine (back_spec' x).mono fun e w575 ⟨he, X575⟩ => ⟨x.x.e.w, x.x.e.i, x.x.e.pv, x.x.e.t, x.x.e.tw, x.x.e.ep, x.x.a, x.x.e.body.length, x.x.c, x.x.e.sg, x.y.e.w, x.y.e.i, x.y.e.pv, x.y.e.t, x.y.e.tw, x.y.e.ep, x.y.a, x.y.e.body.length, x.y.c, x.y.e.sg, he, ?_⟩
  have s575 := Step.of_no (X557.trans X575) h506.st.ok
  refine (same_spec' (pok506.step s575) (xok.step s575) (Q1R h.fin hpt).1 (Q1R h.fin hpt).2).mono fun e w578 ⟨he, X578⟩ => ⟨_, he, ?_⟩
  rw [show (!decide (p.p = x.p)) = false by rw [hpt, hxt]; simp, cond_false]
  have s578' := Step.of_no X578 s575.ok
  have s578 := s575.trans s578'
  have h578 := h506.step0 s578
  have t578 : Step no w o w578 _ := (s503.trans s506).trans s578
  unfold almL.J4
  refine ⟨by omega, by omega, hasK al t, Q2C h578.hb ht, ?_⟩
  have wr : IntKind.i64.wrap ((t : Int) + 1) = (t : Int) + 1 := w64 (by omega) (by omega)
  have wc : IntKind.i64.wrap ((cntK al t : Int) + 1) = (cntK al t : Int) + 1 := w64 (by omega) (by omega)
  rw [wr, wc]
  cases hk : hasK al t with
  | false =>
    rw [cond_false]
    have := hI w578 _ t578
    rw [cnt_no hk] at this
    exact this
  | true =>
    rw [cond_true]
    refine Q01 fun w742 e742 => ?_
    have X742 : Ext no w578 w742 := (Ext.refl _ _).x_drew e742
    have s742 := Step.of_no X742 s578.ok
    have t742 := t578.trans s742
    have h742 := h578.step0 s742
    have hin := inL_at ht hk
    have hy0 : (ps.map PP.p)[cntK al t]? = some (atK al t) := by rw [hmap, List.getElem?_map, hin]; rfl
    obtain ⟨y, hy, hyt⟩ := Option.map_eq_some_iff.1 ((List.getElem?_map ..).symm.trans hy0)
    have hlt : cntK al t < ps.length := (List.getElem?_eq_some_iff.1 hy).1
    rw [decide_eq_false (by omega), cond_false]
    have hr742 := (hrow.step t742).1
    obtain ⟨ad, rfl⟩ := hr742.faddr PP.len (by decide) hlt
    obtain ⟨ws', wb', wl8', wok', wp'⟩ := id h742.wb
    obtain ⟨x', hx'⟩ : ∃ x, ws'[t]? = some x := ⟨_, List.getElem?_eq_getElem (by omega)⟩
    have hxt' := wp' t x' hx'
    have xok' := wok' x' (List.mem_of_getElem? hx')
    have yok := (hok y (List.mem_of_getElem? hy)).step t742
    show _ ∧ _
    refine ⟨by omega, by omega, y.x.e.w, y.x.e.i, y.x.e.pv, y.x.e.t, y.x.e.tw, y.x.e.ep, y.x.a, y.x.e.body.length, y.x.c, y.x.e.sg, y.y.e.w, y.y.e.i, y.y.e.pv, y.y.e.t, y.y.e.tw, y.y.e.ep, y.y.a, y.y.e.body.length, y.y.c, y.y.e.sg, Q1D hr742 hy, by omega, by omega, x'.x.e.w, x'.x.e.i, x'.x.e.pv, x'.x.e.t, x'.x.e.tw, x'.x.e.ep, x'.x.a, x'.x.e.body.length, x'.x.c, x'.x.e.sg, x'.y.e.w, x'.y.e.i, x'.y.e.pv, x'.y.e.t, x'.y.e.tw, x'.y.e.ep, x'.y.a, x'.y.e.body.length, x'.y.c, x'.y.e.sg, Q1D (RowAt.of_blk wb') hx', ?_⟩
    refine (back_spec' y).mono fun e w793 ⟨he, X793⟩ => ⟨y.x.e.w, y.x.e.i, y.x.e.pv, y.x.e.t, y.x.e.tw, y.x.e.ep, y.x.a, y.x.e.body.length, y.x.c, y.x.e.sg, y.y.e.w, y.y.e.i, y.y.e.pv, y.y.e.t, y.y.e.tw, y.y.e.ep, y.y.a, y.y.e.body.length, y.y.c, y.y.e.sg, he, Q1K X793 (Q1D (RowAt.of_blk wb') hx'), ?_⟩
    refine (back_spec' x').mono fun e w811 ⟨he, X811⟩ => ⟨x'.x.e.w, x'.x.e.i, x'.x.e.pv, x'.x.e.t, x'.x.e.tw, x'.x.e.ep, x'.x.a, x'.x.e.body.length, x'.x.c, x'.x.e.sg, x'.y.e.w, x'.y.e.i, x'.y.e.pv, x'.y.e.t, x'.y.e.tw, x'.y.e.ep, x'.y.a, x'.y.e.body.length, x'.y.c, x'.y.e.sg, he, ?_⟩
    have s811 := Step.of_no (X793.trans X811) h742.st.ok
    refine (same_spec' (yok.step s811) (xok'.step s811) (Q1R h.fin hyt).1 (Q1R h.fin hyt).2).mono fun e w814 ⟨he, X814⟩ => ⟨_, he, ?_⟩
    rw [show (!decide (y.p = x'.p)) = false by rw [hyt, hxt']; simp, cond_false]
    have := hI w814 _ ((t742.trans s811).trans (Step.of_no X814 s811.ok))
    rw [cnt_yes hk] at this
    exact this
theorem Q2F {on : Bool} {i : Int} {I0 : Nat → List Value → World → Prop} {R : RW} {m : Nat} (h : AI W k j q r S n al al w o) (hon : on = decide (al ≠ [])) (e27 : w27.heap.size = q) (e28 : w28.heap.size = r)
    (nx : ∀ w2 o2, AI W k j q r S n al al w2 o2 → ∃ m2, m2 < m ∧ I0 m2 [.bool on, .int .i64 (IntKind.i64.wrap (i + 1))] w2) : almL.J6 on i I0 m (some (blk j)) w27 w28 R w := by
  unfold almL.J6
  refine (Q3j h.alm h.st.ok h.fin).mono fun e w102 ⟨o102, pa, pc, ps, he, s102, hmap, hrow, hok⟩ => ⟨pa, ps.length, pc, he, ?_⟩
  have h102 := h.step0 s102
  refine ⟨fun m vs w1 => ∃ (t : Nat) (o1 : Own), vs = [.int .i64 (cntK al t : Int), .int .i64 t] ∧ m + t = 8 ∧ Step no w102 o102 w1 o1, 8, ⟨0, o102, rfl, rfl, Step.refl _ s102.ok⟩, ?_⟩
  rintro m1 w1 nv wv ⟨t, o1, hv, hm, s1⟩
  simp only [List.cons.injEq, Value.int.injEq, true_and, and_true] at hv
  obtain ⟨rfl, rfl⟩ := hv
  have h1 := h102.step0 s1
  by_cases ht : t < 8
  · rw [decide_eq_true (by omega), cond_true]
    exact alm_in h1 (hrow.step s1) (fun p hp => (hok p hp).step s1) hmap ht e27 e28 fun w2 o2 s2 => ⟨m1 - 1, by omega, t + 1, o2, by simp, by omega, s1.trans s2⟩
  · obtain rfl : t = 8 := by omega
    rw [decide_eq_false (by omega), cond_false]
    refine (On_spec h1.alm).mono fun e w447 ⟨he, hw⟩ => ⟨_, he, ?_⟩
    subst hw
    have hlen : ps.length = (inL al).length := by have := congrArg List.length hmap; simpa using this
    rw [hon, show (!(decide (al ≠ []) == decide (al ≠ []))) = false by simp, cond_false, show (((cntK al 8 : Nat) : Int) != ((ps.length : Nat) : Int)) = false by rw [cnt_end, hlen]; simp, cond_false, ← hon]
    exact nx _ _ h1
end
end Go.Proofs.Ytebghegecofmhaa