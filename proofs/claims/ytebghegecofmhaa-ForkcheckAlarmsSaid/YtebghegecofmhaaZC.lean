/- Forkcheck: what proves. -/
import Derived.Test.YtebghegecofmhaaZB
import Derived.Shelf.SlIterI.Nil
import Derived.Shelf.SortM.Plain
import Derived.Shelf.SortM.SortNone
set_option linter.unusedVariables false
set_option linter.unusedSimpArgs false
set_option maxRecDepth 20000
set_option maxHeartbeats 2000000
namespace Go.Proofs.Ytebghegecofmhaa
open Go Go.Mx Go.Proofs
open W (OwnB GivesW numR countR doneR zig unzig intR)
def Q02.M (al ar b1 b6 b5 aw : Int) (az : Option Addr) (ap ay : Nat) (b8 ak am ao b2 b4 ai : Int) (ah : Option Addr) (ag aj : Nat) (b3 : Int) (R : RW) (w : World) : Prop :=
 thenW (w.alloc (.cells #[.int .i64 al, .int .i64 ar, .int .u64 b1, .int .i64 b6, .int .i64 b5, .int .i64 aw, .slice az ap ay, .int .u64 b8, .int .i64 ak, .int .i64 am, .int .u64 ao, .int .i64 b2, .int .i64 b4, .int .i64 ai, .slice ah ag aj, .int .u64 b3] 38)) fun ba =>
 ∃ (a0 a6 ad an b0 a5 : Int) (aa : Option Addr) (ab a8 : Nat) (aq : Int), cellsAt ba ((blk w.heap.size).add 0) [.int .i64 a0, .int .i64 a6, .int .u64 ad, .int .i64 an, .int .i64 b0, .int .i64 a5, .slice aa ab a8, .int .u64 aq] 0 ∧
 Calls Try.prog 32 #[.agg #[.int .i64 a0, .int .i64 a6, .int .u64 ad, .int .i64 an, .int .i64 b0, .int .i64 a5, .slice aa ab a8, .int .u64 aq]] ba fun bb b7 => ∃ (ac : Bool), bb = .returned (.bool ac) ∧
 bif ac then (
 ∃ (a1 a9 ae ax av a7 : Int) (a3 : Option Addr) (a4 a2 : Nat) (au : Int), cellsAt b7 ((blk w.heap.size).add 8) [.int .i64 a1, .int .i64 a9, .int .u64 ae, .int .i64 ax, .int .i64 av, .int .i64 a7, .slice a3 a4 a2, .int .u64 au] 0 ∧
 Calls Try.prog 32 #[.agg #[.int .i64 a1, .int .i64 a9, .int .u64 ae, .int .i64 ax, .int .i64 av, .int .i64 a7, .slice a3 a4 a2, .int .u64 au]] b7 fun bc b9 => ∃ (af : Bool), bc = .returned (.bool af) ∧
 bif af then (
 R (.int .i64 0) b9) else (
 R (.int .i64 1) b9)) else (
 R (.int .i64 1) b7)

theorem Q02.ok (a5 a9 ad ai ah aa : Int) (ac : Option Addr) (a8 ab : Nat) (aj a4 a6 a7 ae ag a2 : Int) (a1 : Option Addr) (a0 a3 : Nat) (af : Int) {R : RW} {w : World} (h : Q02.M a5 a9 ad ai ah aa ac a8 ab aj a4 a6 a7 ae ag a2 a1 a0 a3 af R w) : Calls Try.prog 23 #[.agg #[.int .i64 a5, .int .i64 a9, .int .u64 ad, .int .i64 ai, .int .i64 ah, .int .i64 aa, .slice ac a8 ab, .int .u64 aj, .int .i64 a4, .int .i64 a6, .int .u64 a7, .int .i64 ae, .int .i64 ag, .int .i64 a2, .slice a1 a0 a3, .int .u64 af]] w fun e w' => ∃ v, e = .returned v ∧ R v w' :=
  Q0m follows (H := []) (args := [.agg #[.int .i64 a5, .int .i64 a9, .int .u64 ad, .int .i64 ai, .int .i64 ah, .int .i64 aa, .slice ac a8 ab, .int .u64 aj, .int .i64 a4, .int .i64 a6, .int .u64 a7, .int .i64 ae, .int .i64 ag, .int .i64 a2, .slice a1 a0 a3, .int .u64 af]]) (cast (by kernel_rfl) h)

def Q02.N (a5 a9 ad ai ah aa : Int) (ac : Option Addr) (a8 ab : Nat) (ak a4 a6 a7 ae ag a2 : Int) (a1 : Option Addr) (a0 a3 : Nat) (af : Int) (R : RW) (w : World) : Prop :=
 ((Q08.F a5 a9 ad ai ah aa ac a8 ab ak) = true →
 ((Q08.F a4 a6 a7 ae ag a2 a1 a0 a3 af) = true →
 ∀ (aj : World), Ext no w aj →
 R (.int .i64 0) aj) ∧
 ((Q08.F a4 a6 a7 ae ag a2 a1 a0 a3 af) = false →
 ∀ (aj : World), Ext no w aj →
 R (.int .i64 1) aj)) ∧
 ((Q08.F a5 a9 ad ai ah aa ac a8 ab ak) = false →
 ∀ (al : World), Ext no w al →
 R (.int .i64 1) al)

theorem Q02.up (a5 a9 ad ai ah aa : Int) (ac : Option Addr) (a8 ab : Nat) (aj a4 a6 a7 ae ag a2 : Int) (a1 : Option Addr) (a0 a3 : Nat) (af : Int) {R : RW} {w : World} (h : Q02.N a5 a9 ad ai ah aa ac a8 ab aj a4 a6 a7 ae ag a2 a1 a0 a3 af R w) : Q02.M a5 a9 ad ai ah aa ac a8 ab aj a4 a6 a7 ae ag a2 a1 a0 a3 af R w := by
  unfold Q02.M
  unfold Q02.N at h
  refine Q01 fun ar aq => ?_
  have ak := Blk.of_new aq
  have au := ((Ext.refl no w)).size
  have ao := (Ext.refl no w).x_alloc aq
  refine ⟨a5, a9, ad, ai, ah, aa, ac, a8, ab, aj, ⟨ak.celli 0 rfl rfl, ak.celli 1 rfl rfl, ak.celli 2 rfl rfl, ak.celli 3 rfl rfl, ak.celli 4 rfl rfl, ak.celli 5 rfl rfl, ak.celli 6 rfl rfl, ak.celli 7 rfl rfl, trivial⟩, ?_⟩
  refine (Q08.pure a5 a9 ad ai ah aa ac a8 ab aj).mono fun ee ww18 ⟨he, hxx⟩ => ⟨(Q08.F a5 a9 ad ai ah aa ac a8 ab aj), he, ?_⟩
  have al := ao.trans hxx
  have ak := ak.ext hxx id
  refine bif_fo (fun an => ?_) (fun an => ?_)
  ·have h := h.2 an
   have h := h ww18 al
   exact h
  have h := h.1 an
  refine ⟨a4, a6, a7, ae, ag, a2, a1, a0, a3, af, ⟨ak.celli 8 rfl rfl, ak.celli 9 rfl rfl, ak.celli 10 rfl rfl, ak.celli 11 rfl rfl, ak.celli 12 rfl rfl, ak.celli 13 rfl rfl, ak.celli 14 rfl rfl, ak.celli 15 rfl rfl, trivial⟩, ?_⟩
  refine (Q08.pure a4 a6 a7 ae ag a2 a1 a0 a3 af).mono fun ee ww20 ⟨he, hxx⟩ => ⟨(Q08.F a4 a6 a7 ae ag a2 a1 a0 a3 af), he, ?_⟩
  have am := al.trans hxx
  refine bif_of (fun ap => ?_) (fun ap => ?_)
  ·have h := h.1 ap
   have h := h ww20 am
   exact h
  have h := h.2 ap
  have h := h ww20 am
  exact h

theorem Q02.go (a5 a9 ad ai ah aa : Int) (ac : Option Addr) (a8 ab : Nat) (aj a4 a6 a7 ae ag a2 : Int) (a1 : Option Addr) (a0 a3 : Nat) (af : Int) {R : RW} {w : World} (h : Q02.N a5 a9 ad ai ah aa ac a8 ab aj a4 a6 a7 ae ag a2 a1 a0 a3 af R w) : Calls Try.prog 23 #[.agg #[.int .i64 a5, .int .i64 a9, .int .u64 ad, .int .i64 ai, .int .i64 ah, .int .i64 aa, .slice ac a8 ab, .int .u64 aj, .int .i64 a4, .int .i64 a6, .int .u64 a7, .int .i64 ae, .int .i64 ag, .int .i64 a2, .slice a1 a0 a3, .int .u64 af]] w fun e w' => ∃ v, e = .returned v ∧ R v w' := Q02.ok a5 a9 ad ai ah aa ac a8 ab aj a4 a6 a7 ae ag a2 a1 a0 a3 af (Q02.up a5 a9 ad ai ah aa ac a8 ab aj a4 a6 a7 ae ag a2 a1 a0 a3 af h)
theorem Q02.run (a5 a9 ad ai ah aa : Int) (ac : Option Addr) (a8 ab : Nat) (aj a4 a6 a7 ae ag a2 : Int) (a1 : Option Addr) (a0 a3 : Nat) (af : Int) {V : Value} {Q : World → Prop} {w : World} (h : Q02.N a5 a9 ad ai ah aa ac a8 ab aj a4 a6 a7 ae ag a2 a1 a0 a3 af (fun v w' => v = V ∧ Q w') w) : Calls Try.prog 23 #[.agg #[.int .i64 a5, .int .i64 a9, .int .u64 ad, .int .i64 ai, .int .i64 ah, .int .i64 aa, .slice ac a8 ab, .int .u64 aj, .int .i64 a4, .int .i64 a6, .int .u64 a7, .int .i64 ae, .int .i64 ag, .int .i64 a2, .slice a1 a0 a3, .int .u64 af]] w (Ret V Q) := (Q02.go a5 a9 ad ai ah aa ac a8 ab aj a4 a6 a7 ae ag a2 a1 a0 a3 af h).mono fun e w' ⟨v, he, hv, hq⟩ => ⟨by rw [he, hv], hq⟩

def Q02.F (a5 a9 ad ai ah aa : Int) (ac : Option Addr) (a8 ab : Nat) (aj a4 a6 a7 ae ag a2 : Int) (a1 : Option Addr) (a0 a3 : Nat) (af : Int) : Int :=
  if (Q08.F a5 a9 ad ai ah aa ac a8 ab aj) = true then
    if (Q08.F a4 a6 a7 ae ag a2 a1 a0 a3 af) = true then
      0
    else
      1
  else
    1
theorem Q02.pure (a5 a9 ad ai ah aa : Int) (ac : Option Addr) (a8 ab : Nat) (aj a4 a6 a7 ae ag a2 : Int) (a1 : Option Addr) (a0 a3 : Nat) (af : Int) {w : World} : Calls Try.prog 23 #[.agg #[.int .i64 a5, .int .i64 a9, .int .u64 ad, .int .i64 ai, .int .i64 ah, .int .i64 aa, .slice ac a8 ab, .int .u64 aj, .int .i64 a4, .int .i64 a6, .int .u64 a7, .int .i64 ae, .int .i64 ag, .int .i64 a2, .slice a1 a0 a3, .int .u64 af]] w (Ret (.int .i64 (Q02.F a5 a9 ad ai ah aa ac a8 ab aj a4 a6 a7 ae ag a2 a1 a0 a3 af)) fun w' => Ext no w w') := by
  refine Q02.run a5 a9 ad ai ah aa ac a8 ab aj a4 a6 a7 ae ag a2 a1 a0 a3 af ?_
  unfold Q02.N
  refine ⟨fun c0 => ?_, fun c0 => ?_⟩
  ·refine ⟨fun c1 => ?_, fun c1 => ?_⟩
   ·intro w' hx; exact ⟨by unfold Q02.F; rw [if_pos c0, if_pos c1], hx⟩
   ·intro w' hx; exact ⟨by unfold Q02.F; rw [if_pos c0, if_neg (by rw [c1]; decide)], hx⟩
  ·intro w' hx; exact ⟨by unfold Q02.F; rw [if_neg (by rw [c0]; decide)], hx⟩

def Q00.M (a7 ab af al ak ac : Int) (ae : Option Addr) (aa ad : Nat) (am a6 a8 a9 ag ai a4 : Int) (a3 : Option Addr) (a2 a5 : Nat) (ah : Int) (R : RW) (w : World) : Prop :=
 thenW (w.alloc (.cells #[.int .i64 a7, .int .i64 ab, .int .u64 af, .int .i64 al, .int .i64 ak, .int .i64 ac, .slice ae aa ad, .int .u64 am, .int .i64 a6, .int .i64 a8, .int .u64 a9, .int .i64 ag, .int .i64 ai, .int .i64 a4, .slice a3 a2 a5, .int .u64 ah] 38)) fun aj =>
 ∃ (a0 : Int), aj.cell? (((blk w.heap.size).add 0).add 0) = some (.int .i64 a0) ∧
 ∃ (a1 : Int), aj.cell? (((blk w.heap.size).add 8).add 0) = some (.int .i64 a1) ∧
 bif a0 == a1 then (
 R (.int .i64 0) aj) else (
 R (.int .i64 20) aj)

theorem Q00.ok (a5 a9 ad ai ah aa : Int) (ac : Option Addr) (a8 ab : Nat) (aj a4 a6 a7 ae ag a2 : Int) (a1 : Option Addr) (a0 a3 : Nat) (af : Int) {R : RW} {w : World} (h : Q00.M a5 a9 ad ai ah aa ac a8 ab aj a4 a6 a7 ae ag a2 a1 a0 a3 af R w) : Calls Try.prog 24 #[.agg #[.int .i64 a5, .int .i64 a9, .int .u64 ad, .int .i64 ai, .int .i64 ah, .int .i64 aa, .slice ac a8 ab, .int .u64 aj, .int .i64 a4, .int .i64 a6, .int .u64 a7, .int .i64 ae, .int .i64 ag, .int .i64 a2, .slice a1 a0 a3, .int .u64 af]] w fun e w' => ∃ v, e = .returned v ∧ R v w' :=
  Q0m follows (H := []) (args := [.agg #[.int .i64 a5, .int .i64 a9, .int .u64 ad, .int .i64 ai, .int .i64 ah, .int .i64 aa, .slice ac a8 ab, .int .u64 aj, .int .i64 a4, .int .i64 a6, .int .u64 a7, .int .i64 ae, .int .i64 ag, .int .i64 a2, .slice a1 a0 a3, .int .u64 af]]) (cast (by kernel_rfl) h)

def Q00.N (a1 aa ae aj ai ab : Int) (ad : Option Addr) (a9 ac : Nat) (ak a0 a7 a8 af ah a5 : Int) (a4 : Option Addr) (a3 a6 : Nat) (ag : Int) (R : RW) (w : World) : Prop :=
 (a1 = a0 →
 ∀ (a2 : World), Ext no w a2 →
 R (.int .i64 0) a2) ∧
 (a1 ≠ a0 →
 ∀ (a2 : World), Ext no w a2 →
 R (.int .i64 20) a2)

theorem Q00.up (a1 a9 ad ai ah aa : Int) (ac : Option Addr) (a8 ab : Nat) (aj a0 a6 a7 ae ag a4 : Int) (a3 : Option Addr) (a2 a5 : Nat) (af : Int) {R : RW} {w : World} (h : Q00.N a1 a9 ad ai ah aa ac a8 ab aj a0 a6 a7 ae ag a4 a3 a2 a5 af R w) : Q00.M a1 a9 ad ai ah aa ac a8 ab aj a0 a6 a7 ae ag a4 a3 a2 a5 af R w := by
  unfold Q00.M
  unfold Q00.N at h
  refine Q01 fun al an => ?_
  have ao := Blk.of_new an
  have ap := ((Ext.refl no w)).size
  have ak := (Ext.refl no w).x_alloc an
  refine ⟨a1, ao.celli 0 rfl rfl, ?_⟩
  refine ⟨a0, ao.celli 8 rfl rfl, ?_⟩
  refine bif_of (fun am => ?_) (fun am => ?_)
  ·have h := h.1 (beq_t am)
   have h := h al ak
   exact h
  have h := h.2 (beq_f am)
  have h := h al ak
  exact h

theorem Q00.go (a5 a9 ad ai ah aa : Int) (ac : Option Addr) (a8 ab : Nat) (aj a4 a6 a7 ae ag a2 : Int) (a1 : Option Addr) (a0 a3 : Nat) (af : Int) {R : RW} {w : World} (h : Q00.N a5 a9 ad ai ah aa ac a8 ab aj a4 a6 a7 ae ag a2 a1 a0 a3 af R w) : Calls Try.prog 24 #[.agg #[.int .i64 a5, .int .i64 a9, .int .u64 ad, .int .i64 ai, .int .i64 ah, .int .i64 aa, .slice ac a8 ab, .int .u64 aj, .int .i64 a4, .int .i64 a6, .int .u64 a7, .int .i64 ae, .int .i64 ag, .int .i64 a2, .slice a1 a0 a3, .int .u64 af]] w fun e w' => ∃ v, e = .returned v ∧ R v w' := Q00.ok a5 a9 ad ai ah aa ac a8 ab aj a4 a6 a7 ae ag a2 a1 a0 a3 af (Q00.up a5 a9 ad ai ah aa ac a8 ab aj a4 a6 a7 ae ag a2 a1 a0 a3 af h)
theorem Q00.run (a5 a9 ad ai ah aa : Int) (ac : Option Addr) (a8 ab : Nat) (aj a4 a6 a7 ae ag a2 : Int) (a1 : Option Addr) (a0 a3 : Nat) (af : Int) {V : Value} {Q : World → Prop} {w : World} (h : Q00.N a5 a9 ad ai ah aa ac a8 ab aj a4 a6 a7 ae ag a2 a1 a0 a3 af (fun v w' => v = V ∧ Q w') w) : Calls Try.prog 24 #[.agg #[.int .i64 a5, .int .i64 a9, .int .u64 ad, .int .i64 ai, .int .i64 ah, .int .i64 aa, .slice ac a8 ab, .int .u64 aj, .int .i64 a4, .int .i64 a6, .int .u64 a7, .int .i64 ae, .int .i64 ag, .int .i64 a2, .slice a1 a0 a3, .int .u64 af]] w (Ret V Q) := (Q00.go a5 a9 ad ai ah aa ac a8 ab aj a4 a6 a7 ae ag a2 a1 a0 a3 af h).mono fun e w' ⟨v, he, hv, hq⟩ => ⟨by rw [he, hv], hq⟩

def Q00.F (a1 a9 ad ai ah aa : Int) (ac : Option Addr) (a8 ab : Nat) (aj a0 a6 a7 ae ag a4 : Int) (a3 : Option Addr) (a2 a5 : Nat) (af : Int) : Int :=
  if a1 = a0 then
    0
  else
    20
theorem Q00.pure (a5 a9 ad ai ah aa : Int) (ac : Option Addr) (a8 ab : Nat) (aj a4 a6 a7 ae ag a2 : Int) (a1 : Option Addr) (a0 a3 : Nat) (af : Int) {w : World} : Calls Try.prog 24 #[.agg #[.int .i64 a5, .int .i64 a9, .int .u64 ad, .int .i64 ai, .int .i64 ah, .int .i64 aa, .slice ac a8 ab, .int .u64 aj, .int .i64 a4, .int .i64 a6, .int .u64 a7, .int .i64 ae, .int .i64 ag, .int .i64 a2, .slice a1 a0 a3, .int .u64 af]] w (Ret (.int .i64 (Q00.F a5 a9 ad ai ah aa ac a8 ab aj a4 a6 a7 ae ag a2 a1 a0 a3 af)) fun w' => Ext no w w') := by
  refine Q00.run a5 a9 ad ai ah aa ac a8 ab aj a4 a6 a7 ae ag a2 a1 a0 a3 af ?_
  unfold Q00.N
  refine ⟨fun c0 => ?_, fun c0 => ?_⟩
  ·intro w' hx; exact ⟨by unfold Q00.F; rw [if_pos c0], hx⟩
  ·intro w' hx; exact ⟨by unfold Q00.F; rw [if_neg c0], hx⟩

def Q03.M (a7 ab af al ak ac : Int) (ae : Option Addr) (aa ad : Nat) (am a6 a8 a9 ag ai a4 : Int) (a3 : Option Addr) (a2 a5 : Nat) (ah : Int) (R : RW) (w : World) : Prop :=
 thenW (w.alloc (.cells #[.int .i64 a7, .int .i64 ab, .int .u64 af, .int .i64 al, .int .i64 ak, .int .i64 ac, .slice ae aa ad, .int .u64 am, .int .i64 a6, .int .i64 a8, .int .u64 a9, .int .i64 ag, .int .i64 ai, .int .i64 a4, .slice a3 a2 a5, .int .u64 ah] 38)) fun aj =>
 ∃ (a0 : Int), aj.cell? (((blk w.heap.size).add 0).add 1) = some (.int .i64 a0) ∧
 ∃ (a1 : Int), aj.cell? (((blk w.heap.size).add 8).add 1) = some (.int .i64 a1) ∧
 bif a0 == a1 then (
 R (.int .i64 0) aj) else (
 R (.int .i64 2) aj)

theorem Q03.ok (a5 a9 ad ai ah aa : Int) (ac : Option Addr) (a8 ab : Nat) (aj a4 a6 a7 ae ag a2 : Int) (a1 : Option Addr) (a0 a3 : Nat) (af : Int) {R : RW} {w : World} (h : Q03.M a5 a9 ad ai ah aa ac a8 ab aj a4 a6 a7 ae ag a2 a1 a0 a3 af R w) : Calls Try.prog 25 #[.agg #[.int .i64 a5, .int .i64 a9, .int .u64 ad, .int .i64 ai, .int .i64 ah, .int .i64 aa, .slice ac a8 ab, .int .u64 aj, .int .i64 a4, .int .i64 a6, .int .u64 a7, .int .i64 ae, .int .i64 ag, .int .i64 a2, .slice a1 a0 a3, .int .u64 af]] w fun e w' => ∃ v, e = .returned v ∧ R v w' :=
  Q0m follows (H := []) (args := [.agg #[.int .i64 a5, .int .i64 a9, .int .u64 ad, .int .i64 ai, .int .i64 ah, .int .i64 aa, .slice ac a8 ab, .int .u64 aj, .int .i64 a4, .int .i64 a6, .int .u64 a7, .int .i64 ae, .int .i64 ag, .int .i64 a2, .slice a1 a0 a3, .int .u64 af]]) (cast (by kernel_rfl) h)

def Q03.N (a8 a1 ae aj ai ab : Int) (ad : Option Addr) (aa ac : Nat) (ak a7 a0 a9 af ah a5 : Int) (a4 : Option Addr) (a3 a6 : Nat) (ag : Int) (R : RW) (w : World) : Prop :=
 (a1 = a0 →
 ∀ (a2 : World), Ext no w a2 →
 R (.int .i64 0) a2) ∧
 (a1 ≠ a0 →
 ∀ (a2 : World), Ext no w a2 →
 R (.int .i64 2) a2)

theorem Q03.up (a7 a1 ad ai ah aa : Int) (ac : Option Addr) (a9 ab : Nat) (aj a6 a0 a8 ae ag a4 : Int) (a3 : Option Addr) (a2 a5 : Nat) (af : Int) {R : RW} {w : World} (h : Q03.N a7 a1 ad ai ah aa ac a9 ab aj a6 a0 a8 ae ag a4 a3 a2 a5 af R w) : Q03.M a7 a1 ad ai ah aa ac a9 ab aj a6 a0 a8 ae ag a4 a3 a2 a5 af R w := by
  unfold Q03.M
  unfold Q03.N at h
  refine Q01 fun al an => ?_
  have ao := Blk.of_new an
  have ap := ((Ext.refl no w)).size
  have ak := (Ext.refl no w).x_alloc an
  refine ⟨a1, ao.celli 1 rfl rfl, ?_⟩
  refine ⟨a0, ao.celli 9 rfl rfl, ?_⟩
  refine bif_of (fun am => ?_) (fun am => ?_)
  ·have h := h.1 (beq_t am)
   have h := h al ak
   exact h
  have h := h.2 (beq_f am)
  have h := h al ak
  exact h

theorem Q03.go (a5 a9 ad ai ah aa : Int) (ac : Option Addr) (a8 ab : Nat) (aj a4 a6 a7 ae ag a2 : Int) (a1 : Option Addr) (a0 a3 : Nat) (af : Int) {R : RW} {w : World} (h : Q03.N a5 a9 ad ai ah aa ac a8 ab aj a4 a6 a7 ae ag a2 a1 a0 a3 af R w) : Calls Try.prog 25 #[.agg #[.int .i64 a5, .int .i64 a9, .int .u64 ad, .int .i64 ai, .int .i64 ah, .int .i64 aa, .slice ac a8 ab, .int .u64 aj, .int .i64 a4, .int .i64 a6, .int .u64 a7, .int .i64 ae, .int .i64 ag, .int .i64 a2, .slice a1 a0 a3, .int .u64 af]] w fun e w' => ∃ v, e = .returned v ∧ R v w' := Q03.ok a5 a9 ad ai ah aa ac a8 ab aj a4 a6 a7 ae ag a2 a1 a0 a3 af (Q03.up a5 a9 ad ai ah aa ac a8 ab aj a4 a6 a7 ae ag a2 a1 a0 a3 af h)
theorem Q03.run (a5 a9 ad ai ah aa : Int) (ac : Option Addr) (a8 ab : Nat) (aj a4 a6 a7 ae ag a2 : Int) (a1 : Option Addr) (a0 a3 : Nat) (af : Int) {V : Value} {Q : World → Prop} {w : World} (h : Q03.N a5 a9 ad ai ah aa ac a8 ab aj a4 a6 a7 ae ag a2 a1 a0 a3 af (fun v w' => v = V ∧ Q w') w) : Calls Try.prog 25 #[.agg #[.int .i64 a5, .int .i64 a9, .int .u64 ad, .int .i64 ai, .int .i64 ah, .int .i64 aa, .slice ac a8 ab, .int .u64 aj, .int .i64 a4, .int .i64 a6, .int .u64 a7, .int .i64 ae, .int .i64 ag, .int .i64 a2, .slice a1 a0 a3, .int .u64 af]] w (Ret V Q) := (Q03.go a5 a9 ad ai ah aa ac a8 ab aj a4 a6 a7 ae ag a2 a1 a0 a3 af h).mono fun e w' ⟨v, he, hv, hq⟩ => ⟨by rw [he, hv], hq⟩

def Q03.F (a7 a1 ad ai ah aa : Int) (ac : Option Addr) (a9 ab : Nat) (aj a6 a0 a8 ae ag a4 : Int) (a3 : Option Addr) (a2 a5 : Nat) (af : Int) : Int :=
  if a1 = a0 then
    0
  else
    2
theorem Q03.pure (a5 a9 ad ai ah aa : Int) (ac : Option Addr) (a8 ab : Nat) (aj a4 a6 a7 ae ag a2 : Int) (a1 : Option Addr) (a0 a3 : Nat) (af : Int) {w : World} : Calls Try.prog 25 #[.agg #[.int .i64 a5, .int .i64 a9, .int .u64 ad, .int .i64 ai, .int .i64 ah, .int .i64 aa, .slice ac a8 ab, .int .u64 aj, .int .i64 a4, .int .i64 a6, .int .u64 a7, .int .i64 ae, .int .i64 ag, .int .i64 a2, .slice a1 a0 a3, .int .u64 af]] w (Ret (.int .i64 (Q03.F a5 a9 ad ai ah aa ac a8 ab aj a4 a6 a7 ae ag a2 a1 a0 a3 af)) fun w' => Ext no w w') := by
  refine Q03.run a5 a9 ad ai ah aa ac a8 ab aj a4 a6 a7 ae ag a2 a1 a0 a3 af ?_
  unfold Q03.N
  refine ⟨fun c0 => ?_, fun c0 => ?_⟩
  ·intro w' hx; exact ⟨by unfold Q03.F; rw [if_pos c0], hx⟩
  ·intro w' hx; exact ⟨by unfold Q03.F; rw [if_neg c0], hx⟩

def Q0b.M (aj ar b0 b5 b4 aw : Int) (ay : Option Addr) (ap ax : Nat) (b6 ai ak an b1 b3 ag : Int) (af : Option Addr) (ae ah : Nat) (b2 : Int) (R : RW) (w : World) : Prop :=
 thenW (w.alloc (.cells #[.int .i64 aj, .int .i64 ar, .int .u64 b0, .int .i64 b5, .int .i64 b4, .int .i64 aw, .slice ay ap ax, .int .u64 b6, .int .i64 ai, .int .i64 ak, .int .u64 an, .int .i64 b1, .int .i64 b3, .int .i64 ag, .slice af ae ah, .int .u64 b2] 38)) fun b7 =>
 ∃ (a0 a5 ac al az a4 : Int) (a7 : Option Addr) (a8 a6 : Nat) (aq : Int), cellsAt b7 ((blk w.heap.size).add 0) [.int .i64 a0, .int .i64 a5, .int .u64 ac, .int .i64 al, .int .i64 az, .int .i64 a4, .slice a7 a8 a6, .int .u64 aq] 0 ∧
 ∃ (a1 a9 ad av au a2 : Int) (ab : Option Addr) (aa a3 : Nat) (ao : Int), cellsAt b7 ((blk w.heap.size).add 8) [.int .i64 a1, .int .i64 a9, .int .u64 ad, .int .i64 av, .int .i64 au, .int .i64 a2, .slice ab aa a3, .int .u64 ao] 0 ∧
 Calls Try.prog 35 #[.agg #[.int .i64 a0, .int .i64 a5, .int .u64 ac, .int .i64 al, .int .i64 az, .int .i64 a4, .slice a7 a8 a6, .int .u64 aq], .agg #[.int .i64 a1, .int .i64 a9, .int .u64 ad, .int .i64 av, .int .i64 au, .int .i64 a2, .slice ab aa a3, .int .u64 ao]] b7 fun b9 b8 => ∃ (am : Bool), b9 = .returned (.bool am) ∧
 bif am then (
 R (.int .i64 8) b8) else (
 R (.int .i64 0) b8)

theorem Q0b.ok (a5 a9 ad ai ah aa : Int) (ac : Option Addr) (a8 ab : Nat) (aj a4 a6 a7 ae ag a2 : Int) (a1 : Option Addr) (a0 a3 : Nat) (af : Int) {R : RW} {w : World} (h : Q0b.M a5 a9 ad ai ah aa ac a8 ab aj a4 a6 a7 ae ag a2 a1 a0 a3 af R w) : Calls Try.prog 26 #[.agg #[.int .i64 a5, .int .i64 a9, .int .u64 ad, .int .i64 ai, .int .i64 ah, .int .i64 aa, .slice ac a8 ab, .int .u64 aj, .int .i64 a4, .int .i64 a6, .int .u64 a7, .int .i64 ae, .int .i64 ag, .int .i64 a2, .slice a1 a0 a3, .int .u64 af]] w fun e w' => ∃ v, e = .returned v ∧ R v w' :=
  Q0m follows (H := []) (args := [.agg #[.int .i64 a5, .int .i64 a9, .int .u64 ad, .int .i64 ai, .int .i64 ah, .int .i64 aa, .slice ac a8 ab, .int .u64 aj, .int .i64 a4, .int .i64 a6, .int .u64 a7, .int .i64 ae, .int .i64 ag, .int .i64 a2, .slice a1 a0 a3, .int .u64 af]]) (cast (by kernel_rfl) h)

def Q0b.N (a6 aa ae aj ai ab : Int) (ad : Option Addr) (a9 ac : Nat) (ak a5 a7 a8 af ah a3 : Int) (a2 : Option Addr) (a1 a4 : Nat) (ag : Int) (R : RW) (w : World) : Prop :=
 ∀ (am : World), Ext no w am →
 Calls Try.prog 35 #[.agg #[.int .i64 a6, .int .i64 aa, .int .u64 ae, .int .i64 aj, .int .i64 ai, .int .i64 ab, .slice ad a9 ac, .int .u64 ak], .agg #[.int .i64 a5, .int .i64 a7, .int .u64 a8, .int .i64 af, .int .i64 ah, .int .i64 a3, .slice a2 a1 a4, .int .u64 ag]] am fun an al => ∃ (a0 : Bool), an = .returned (.bool a0) ∧
 (a0 = true →
 R (.int .i64 8) al) ∧
 (a0 = false →
 R (.int .i64 0) al)

theorem Q0b.up (a5 a9 ad aj ai aa : Int) (ac : Option Addr) (a8 ab : Nat) (ak a4 a6 a7 ae ag a2 : Int) (a1 : Option Addr) (a0 a3 : Nat) (af : Int) {R : RW} {w : World} (h : Q0b.N a5 a9 ad aj ai aa ac a8 ab ak a4 a6 a7 ae ag a2 a1 a0 a3 af R w) : Q0b.M a5 a9 ad aj ai aa ac a8 ab ak a4 a6 a7 ae ag a2 a1 a0 a3 af R w := by
  unfold Q0b.M
  unfold Q0b.N at h
  refine Q01 fun ao ap => ?_
  have ah := Blk.of_new ap
  have au := ((Ext.refl no w)).size
  have an := (Ext.refl no w).x_alloc ap
  refine ⟨a5, a9, ad, aj, ai, aa, ac, a8, ab, ak, ⟨ah.celli 0 rfl rfl, ah.celli 1 rfl rfl, ah.celli 2 rfl rfl, ah.celli 3 rfl rfl, ah.celli 4 rfl rfl, ah.celli 5 rfl rfl, ah.celli 6 rfl rfl, ah.celli 7 rfl rfl, trivial⟩, ?_⟩
  refine ⟨a4, a6, a7, ae, ag, a2, a1, a0, a3, af, ⟨ah.celli 8 rfl rfl, ah.celli 9 rfl rfl, ah.celli 10 rfl rfl, ah.celli 11 rfl rfl, ah.celli 12 rfl rfl, ah.celli 13 rfl rfl, ah.celli 14 rfl rfl, ah.celli 15 rfl rfl, trivial⟩, ?_⟩
  have h := h ao an
  refine h.mono fun aq ar h => ?_
  obtain ⟨al, he, h⟩ := h
  refine ⟨al, he, ?_⟩
  refine bif_of (fun am => ?_) (fun am => ?_)
  ·have h := h.1 am
   exact h
  have h := h.2 am
  exact h

theorem Q0b.go (a5 a9 ad ai ah aa : Int) (ac : Option Addr) (a8 ab : Nat) (aj a4 a6 a7 ae ag a2 : Int) (a1 : Option Addr) (a0 a3 : Nat) (af : Int) {R : RW} {w : World} (h : Q0b.N a5 a9 ad ai ah aa ac a8 ab aj a4 a6 a7 ae ag a2 a1 a0 a3 af R w) : Calls Try.prog 26 #[.agg #[.int .i64 a5, .int .i64 a9, .int .u64 ad, .int .i64 ai, .int .i64 ah, .int .i64 aa, .slice ac a8 ab, .int .u64 aj, .int .i64 a4, .int .i64 a6, .int .u64 a7, .int .i64 ae, .int .i64 ag, .int .i64 a2, .slice a1 a0 a3, .int .u64 af]] w fun e w' => ∃ v, e = .returned v ∧ R v w' := Q0b.ok a5 a9 ad ai ah aa ac a8 ab aj a4 a6 a7 ae ag a2 a1 a0 a3 af (Q0b.up a5 a9 ad ai ah aa ac a8 ab aj a4 a6 a7 ae ag a2 a1 a0 a3 af h)
theorem Q0b.run (a5 a9 ad ai ah aa : Int) (ac : Option Addr) (a8 ab : Nat) (aj a4 a6 a7 ae ag a2 : Int) (a1 : Option Addr) (a0 a3 : Nat) (af : Int) {V : Value} {Q : World → Prop} {w : World} (h : Q0b.N a5 a9 ad ai ah aa ac a8 ab aj a4 a6 a7 ae ag a2 a1 a0 a3 af (fun v w' => v = V ∧ Q w') w) : Calls Try.prog 26 #[.agg #[.int .i64 a5, .int .i64 a9, .int .u64 ad, .int .i64 ai, .int .i64 ah, .int .i64 aa, .slice ac a8 ab, .int .u64 aj, .int .i64 a4, .int .i64 a6, .int .u64 a7, .int .i64 ae, .int .i64 ag, .int .i64 a2, .slice a1 a0 a3, .int .u64 af]] w (Ret V Q) := (Q0b.go a5 a9 ad ai ah aa ac a8 ab aj a4 a6 a7 ae ag a2 a1 a0 a3 af h).mono fun e w' ⟨v, he, hv, hq⟩ => ⟨by rw [he, hv], hq⟩

def Q0n.M (o1 : Option Addr) (bz d4 de dk ds dr db : Int) (dg : Option Addr) (dd df : Nat) (dl c9 d6 dh dn dj d7 : Int) (d9 : Option Addr) (d5 d8 : Nat) (dm : Int) (R : RW) (w : World) : Prop :=
 thenW (w.alloc (.cells #[.int .i64 d4, .int .i64 de, .int .u64 dk, .int .i64 ds, .int .i64 dr, .int .i64 db, .slice dg dd df, .int .u64 dl, .int .i64 c9, .int .i64 d6, .int .u64 dh, .int .i64 dn, .int .i64 dj, .int .i64 d7, .slice d9 d5 d8, .int .u64 dm] 38)) fun di =>
 ∃ (ac bk c0 cd ca bn : Int) (ar : Option Addr) (ax ba : Nat) (ck a5 bc bu ce cv b2 : Int) (be : Option Addr) (bl ao : Nat) (cu : Int), cellsAt di (blk w.heap.size) [.int .i64 ac, .int .i64 bk, .int .u64 c0, .int .i64 cd, .int .i64 ca, .int .i64 bn, .slice ar ax ba, .int .u64 ck, .int .i64 a5, .int .i64 bc, .int .u64 bu, .int .i64 ce, .int .i64 cv, .int .i64 b2, .slice be bl ao, .int .u64 cu] 0 ∧
 ∃ (a8 an c6 cr cm au : Int) (ai : Option Addr) (ae aw : Nat) (cx aa bh bx cc d1 b8 : Int) (ah : Option Addr) (av bb : Nat) (d3 : Int), cellsAt di (blk w.heap.size) [.int .i64 a8, .int .i64 an, .int .u64 c6, .int .i64 cr, .int .i64 cm, .int .i64 au, .slice ai ae aw, .int .u64 cx, .int .i64 aa, .int .i64 bh, .int .u64 bx, .int .i64 cc, .int .i64 d1, .int .i64 b8, .slice ah av bb, .int .u64 d3] 0 ∧
 ∃ (a9 ay c4 cl cy b4 : Int) (al : Option Addr) (aj br : Nat) (cj a1 ag c5 cf d2 b3 : Int) (af : Option Addr) (bd bp : Nat) (ci : Int), cellsAt di (blk w.heap.size) [.int .i64 a9, .int .i64 ay, .int .u64 c4, .int .i64 cl, .int .i64 cy, .int .i64 b4, .slice al aj br, .int .u64 cj, .int .i64 a1, .int .i64 ag, .int .u64 c5, .int .i64 cf, .int .i64 d2, .int .i64 b3, .slice af bd bp, .int .u64 ci] 0 ∧
 ∃ (a7 bf c3 cn cs bm : Int) (b0 : Option Addr) (bj aq : Nat) (co a3 bs bv ch cq ap : Int) (bg : Option Addr) (b5 az : Nat) (cw : Int), cellsAt di (blk w.heap.size) [.int .i64 a7, .int .i64 bf, .int .u64 c3, .int .i64 cn, .int .i64 cs, .int .i64 bm, .slice b0 bj aq, .int .u64 co, .int .i64 a3, .int .i64 bs, .int .u64 bv, .int .i64 ch, .int .i64 cq, .int .i64 ap, .slice bg b5 az, .int .u64 cw] 0 ∧
 ∃ (I0 : Nat → List Value → World → Prop) (e7 : Nat), I0 e7 [.int .i64 0] di ∧ ∀ (dz : Nat) (c8 : World) (da : Int), I0 dz [.int .i64 da] c8 →
 bif decide (da < 4) then (
 0 ≤ (da : Int) ∧ (da : Int) < (4 : Int) ∧
 ((da : Int) = 0 → 
 Calls Try.prog 23 #[.agg #[.int .i64 ac, .int .i64 bk, .int .u64 c0, .int .i64 cd, .int .i64 ca, .int .i64 bn, .slice ar ax ba, .int .u64 ck, .int .i64 a5, .int .i64 bc, .int .u64 bu, .int .i64 ce, .int .i64 cv, .int .i64 b2, .slice be bl ao, .int .u64 cu]] c8 fun e1 dx => ∃ (bt : Int), e1 = .returned (.int .i64 bt) ∧
 bif bt != 0 then (
 R (.int .i64 bt) dx) else (
 ∃ e4, e4 < dz ∧ I0 e4 [.int .i64 (IntKind.i64.wrap (da + 1))] dx)) ∧
 ((da : Int) = 1 → 
 Calls Try.prog 24 #[.agg #[.int .i64 a8, .int .i64 an, .int .u64 c6, .int .i64 cr, .int .i64 cm, .int .i64 au, .slice ai ae aw, .int .u64 cx, .int .i64 aa, .int .i64 bh, .int .u64 bx, .int .i64 cc, .int .i64 d1, .int .i64 b8, .slice ah av bb, .int .u64 d3]] c8 fun e2 dt => ∃ (a0 : Int), e2 = .returned (.int .i64 a0) ∧
 bif a0 != 0 then (
 R (.int .i64 a0) dt) else (
 ∃ e6, e6 < dz ∧ I0 e6 [.int .i64 (IntKind.i64.wrap (da + 1))] dt)) ∧
 ((da : Int) = 2 → 
 Calls Try.prog 25 #[.agg #[.int .i64 a9, .int .i64 ay, .int .u64 c4, .int .i64 cl, .int .i64 cy, .int .i64 b4, .slice al aj br, .int .u64 cj, .int .i64 a1, .int .i64 ag, .int .u64 c5, .int .i64 cf, .int .i64 d2, .int .i64 b3, .slice af bd bp, .int .u64 ci]] c8 fun e3 dw => ∃ (a4 : Int), e3 = .returned (.int .i64 a4) ∧
 bif a4 != 0 then (
 R (.int .i64 a4) dw) else (
 ∃ e5, e5 < dz ∧ I0 e5 [.int .i64 (IntKind.i64.wrap (da + 1))] dw)) ∧
 ((da : Int) = 3 → 
 Calls Try.prog 26 #[.agg #[.int .i64 a7, .int .i64 bf, .int .u64 c3, .int .i64 cn, .int .i64 cs, .int .i64 bm, .slice b0 bj aq, .int .u64 co, .int .i64 a3, .int .i64 bs, .int .u64 bv, .int .i64 ch, .int .i64 cq, .int .i64 ap, .slice bg b5 az, .int .u64 cw]] c8 fun dv dq => ∃ (ab : Int), dv = .returned (.int .i64 ab) ∧
 bif ab != 0 then (
 R (.int .i64 ab) dq) else (
 ∃ du, du < dz ∧ I0 du [.int .i64 (IntKind.i64.wrap (da + 1))] dq)) ∧ True) else (
 ∃ (a6 bq c7 d0 ct b6 : Int) (b9 : Option Addr) (am ak : Nat) (cz : Int), cellsAt c8 ((blk w.heap.size).add 0) [.int .i64 a6, .int .i64 bq, .int .u64 c7, .int .i64 d0, .int .i64 ct, .int .i64 b6, .slice b9 am ak, .int .u64 cz] 0 ∧
 Calls Try.prog 27 #[.pointer o1, .int .u64 bz, .agg #[.int .i64 a6, .int .i64 bq, .int .u64 c7, .int .i64 d0, .int .i64 ct, .int .i64 b6, .slice b9 am ak, .int .u64 cz]] c8 fun e0 dc => ∃ (bw : Bool), e0 = .returned (.bool bw) ∧
 bif !bw then (
 R (.int .i64 6) dc) else (
 ∃ (a2 b7 c2 cb cg ad : Int) (bi : Option Addr) (b1 bo : Nat) (cp : Int), cellsAt dc ((blk w.heap.size).add 8) [.int .i64 a2, .int .i64 b7, .int .u64 c2, .int .i64 cb, .int .i64 cg, .int .i64 ad, .slice bi b1 bo, .int .u64 cp] 0 ∧
 Calls Try.prog 27 #[.pointer o1, .int .u64 bz, .agg #[.int .i64 a2, .int .i64 b7, .int .u64 c2, .int .i64 cb, .int .i64 cg, .int .i64 ad, .slice bi b1 bo, .int .u64 cp]] dc fun dy dp => ∃ (c1 : Bool), dy = .returned (.bool c1) ∧
 bif !c1 then (
 R (.int .i64 6) dp) else (
 R (.int .i64 0) dp)))

theorem Q0n.ok (o1 : Option Addr) (ab a1 ad ah ak aj ac : Int) (a8 : Option Addr) (a9 a7 : Nat) (ag a0 a5 aa ai af a6 : Int) (a2 : Option Addr) (a4 a3 : Nat) (ae : Int) {R : RW} {w : World} (h : Q0n.M o1 ab a1 ad ah ak aj ac a8 a9 a7 ag a0 a5 aa ai af a6 a2 a4 a3 ae R w) : Calls Try.prog 11 #[.pointer o1, .int .u64 ab, .agg #[.int .i64 a1, .int .i64 ad, .int .u64 ah, .int .i64 ak, .int .i64 aj, .int .i64 ac, .slice a8 a9 a7, .int .u64 ag, .int .i64 a0, .int .i64 a5, .int .u64 aa, .int .i64 ai, .int .i64 af, .int .i64 a6, .slice a2 a4 a3, .int .u64 ae]] w fun e w' => ∃ v, e = .returned v ∧ R v w' :=
  Q0m follows (H := [(0, [0, 1, 5, 18], [(19, (.one (.int .i64)))])]) (args := [.pointer o1, .int .u64 ab, .agg #[.int .i64 a1, .int .i64 ad, .int .u64 ah, .int .i64 ak, .int .i64 aj, .int .i64 ac, .slice a8 a9 a7, .int .u64 ag, .int .i64 a0, .int .i64 a5, .int .u64 aa, .int .i64 ai, .int .i64 af, .int .i64 a6, .slice a2 a4 a3, .int .u64 ae]]) (cast (by kernel_rfl) h)

def Q0n.N (o1 : Option Addr) (ap a1 ac ag aj ai ab : Int) (a9 : Option Addr) (a8 a7 : Nat) (af a0 a5 aa ah ae a6 : Int) (a2 : Option Addr) (a4 a3 : Nat) (ad : Int) (R : RW) (w : World) : Prop :=
 ∀ (ax : World) (b0 : Nat), Ext no w ax → Priv w ax [b0] →
 ∃ (I0 : Nat → List Value → World → Prop) (b8 : Nat), I0 b8 [.int .i64 0] ax ∧ ∀ (ay : Nat) (al : World) (am : Int), I0 ay [.int .i64 am] al →
 (am < 4 →
 0 ≤ (am : Int) ∧ (am : Int) < (4 : Int) ∧
 ((am : Int) = 0 →
 ((Q02.F a1 ac ag aj ai ab a9 a8 a7 af a0 a5 aa ah ae a6 a2 a4 a3 ad) ≠ 0 →
 ∀ (ar : World), Ext no al ar →
 R (.int .i64 (Q02.F a1 ac ag aj ai ab a9 a8 a7 af a0 a5 aa ah ae a6 a2 a4 a3 ad)) ar) ∧
 ((Q02.F a1 ac ag aj ai ab a9 a8 a7 af a0 a5 aa ah ae a6 a2 a4 a3 ad) = 0 →
 (-9223372036854775808 : Int) ≤ (am + 1) ∧ (am + 1) < 9223372036854775808 ∧
 ∀ (ar : World), Ext no al ar →
 ∃ b4, b4 < ay ∧ I0 b4 [.int .i64 (am + 1)] ar)) ∧
 ((am : Int) = 1 →
 ((Q00.F a1 ac ag aj ai ab a9 a8 a7 af a0 a5 aa ah ae a6 a2 a4 a3 ad) ≠ 0 →
 ∀ (aq : World), Ext no al aq →
 R (.int .i64 (Q00.F a1 ac ag aj ai ab a9 a8 a7 af a0 a5 aa ah ae a6 a2 a4 a3 ad)) aq) ∧
 ((Q00.F a1 ac ag aj ai ab a9 a8 a7 af a0 a5 aa ah ae a6 a2 a4 a3 ad) = 0 →
 (-9223372036854775808 : Int) ≤ (am + 1) ∧ (am + 1) < 9223372036854775808 ∧
 ∀ (aq : World), Ext no al aq →
 ∃ b5, b5 < ay ∧ I0 b5 [.int .i64 (am + 1)] aq)) ∧
 ((am : Int) = 2 →
 ((Q03.F a1 ac ag aj ai ab a9 a8 a7 af a0 a5 aa ah ae a6 a2 a4 a3 ad) ≠ 0 →
 ∀ (au : World), Ext no al au →
 R (.int .i64 (Q03.F a1 ac ag aj ai ab a9 a8 a7 af a0 a5 aa ah ae a6 a2 a4 a3 ad)) au) ∧
 ((Q03.F a1 ac ag aj ai ab a9 a8 a7 af a0 a5 aa ah ae a6 a2 a4 a3 ad) = 0 →
 (-9223372036854775808 : Int) ≤ (am + 1) ∧ (am + 1) < 9223372036854775808 ∧
 ∀ (au : World), Ext no al au →
 ∃ b6, b6 < ay ∧ I0 b6 [.int .i64 (am + 1)] au)) ∧
 ((am : Int) = 3 →
 Calls Try.prog 26 #[.agg #[.int .i64 a1, .int .i64 ac, .int .u64 ag, .int .i64 aj, .int .i64 ai, .int .i64 ab, .slice a9 a8 a7, .int .u64 af, .int .i64 a0, .int .i64 a5, .int .u64 aa, .int .i64 ah, .int .i64 ae, .int .i64 a6, .slice a2 a4 a3, .int .u64 ad]] al fun b3 aw => ∃ (ak : Int), b3 = .returned (.int .i64 ak) ∧
 Keep [b0] al aw ∧
 (ak ≠ 0 →
 R (.int .i64 ak) aw) ∧
 (ak = 0 →
 (-9223372036854775808 : Int) ≤ (am + 1) ∧ (am + 1) < 9223372036854775808 ∧
 ∃ b7, b7 < ay ∧ I0 b7 [.int .i64 (am + 1)] aw))) ∧
 ((4 : Int) ≤ am →
 Calls Try.prog 27 #[.pointer o1, .int .u64 ap, .agg #[.int .i64 a1, .int .i64 ac, .int .u64 ag, .int .i64 aj, .int .i64 ai, .int .i64 ab, .slice a9 a8 a7, .int .u64 af]] al fun b1 av => ∃ (ao : Bool), b1 = .returned (.bool ao) ∧
 Keep [b0] al av ∧
 (ao = false →
 R (.int .i64 6) av) ∧
 (ao = true →
 Calls Try.prog 27 #[.pointer o1, .int .u64 ap, .agg #[.int .i64 a0, .int .i64 a5, .int .u64 aa, .int .i64 ah, .int .i64 ae, .int .i64 a6, .slice a2 a4 a3, .int .u64 ad]] av fun b2 az => ∃ (an : Bool), b2 = .returned (.bool an) ∧
 (an = false →
 R (.int .i64 6) az) ∧
 (an = true →
 R (.int .i64 0) az)))

theorem Q0n.up (o1 : Option Addr) (al a1 ad ah ak aj ac : Int) (a9 : Option Addr) (aa a8 : Nat) (ag a0 a5 ab ai af a6 : Int) (a2 : Option Addr) (a4 a3 : Nat) (ae : Int) {R : RW} {w : World} (h : Q0n.N o1 al a1 ad ah ak aj ac a9 aa a8 ag a0 a5 ab ai af a6 a2 a4 a3 ae R w) : Q0n.M o1 al a1 ad ah ak aj ac a9 aa a8 ag a0 a5 ab ai af a6 a2 a4 a3 ae R w := by
  unfold Q0n.M
  unfold Q0n.N at h
  refine Q01 fun b5 b6 => ?_
  have a7 := Blk.of_new b6
  have bd := ((Ext.refl no w)).size
  have b4 := (Ext.refl no w).x_alloc b6
  refine ⟨a1, ad, ah, ak, aj, ac, a9, aa, a8, ag, a0, a5, ab, ai, af, a6, a2, a4, a3, ae, ⟨a7.celli 0 rfl rfl, a7.celli 1 rfl rfl, a7.celli 2 rfl rfl, a7.celli 3 rfl rfl, a7.celli 4 rfl rfl, a7.celli 5 rfl rfl, a7.celli 6 rfl rfl, a7.celli 7 rfl rfl, a7.celli 8 rfl rfl, a7.celli 9 rfl rfl, a7.celli 10 rfl rfl, a7.celli 11 rfl rfl, a7.celli 12 rfl rfl, a7.celli 13 rfl rfl, a7.celli 14 rfl rfl, a7.celli 15 rfl rfl, trivial⟩, ?_⟩
  refine ⟨a1, ad, ah, ak, aj, ac, a9, aa, a8, ag, a0, a5, ab, ai, af, a6, a2, a4, a3, ae, ⟨a7.celli 0 rfl rfl, a7.celli 1 rfl rfl, a7.celli 2 rfl rfl, a7.celli 3 rfl rfl, a7.celli 4 rfl rfl, a7.celli 5 rfl rfl, a7.celli 6 rfl rfl, a7.celli 7 rfl rfl, a7.celli 8 rfl rfl, a7.celli 9 rfl rfl, a7.celli 10 rfl rfl, a7.celli 11 rfl rfl, a7.celli 12 rfl rfl, a7.celli 13 rfl rfl, a7.celli 14 rfl rfl, a7.celli 15 rfl rfl, trivial⟩, ?_⟩
  refine ⟨a1, ad, ah, ak, aj, ac, a9, aa, a8, ag, a0, a5, ab, ai, af, a6, a2, a4, a3, ae, ⟨a7.celli 0 rfl rfl, a7.celli 1 rfl rfl, a7.celli 2 rfl rfl, a7.celli 3 rfl rfl, a7.celli 4 rfl rfl, a7.celli 5 rfl rfl, a7.celli 6 rfl rfl, a7.celli 7 rfl rfl, a7.celli 8 rfl rfl, a7.celli 9 rfl rfl, a7.celli 10 rfl rfl, a7.celli 11 rfl rfl, a7.celli 12 rfl rfl, a7.celli 13 rfl rfl, a7.celli 14 rfl rfl, a7.celli 15 rfl rfl, trivial⟩, ?_⟩
  refine ⟨a1, ad, ah, ak, aj, ac, a9, aa, a8, ag, a0, a5, ab, ai, af, a6, a2, a4, a3, ae, ⟨a7.celli 0 rfl rfl, a7.celli 1 rfl rfl, a7.celli 2 rfl rfl, a7.celli 3 rfl rfl, a7.celli 4 rfl rfl, a7.celli 5 rfl rfl, a7.celli 6 rfl rfl, a7.celli 7 rfl rfl, a7.celli 8 rfl rfl, a7.celli 9 rfl rfl, a7.celli 10 rfl rfl, a7.celli 11 rfl rfl, a7.celli 12 rfl rfl, a7.celli 13 rfl rfl, a7.celli 14 rfl rfl, a7.celli 15 rfl rfl, trivial⟩, ?_⟩
  have h := h b5 (w.heap.size) b4 (Priv.cons bd a7.lt Priv.nil)
  obtain ⟨I0, bi, h0, h⟩ := h
  refine ⟨fun k vs ww => Blk ww w.heap.size 38 [.int .i64 a1, .int .i64 ad, .int .u64 ah, .int .i64 ak, .int .i64 aj, .int .i64 ac, .slice a9 aa a8, .int .u64 ag, .int .i64 a0, .int .i64 a5, .int .u64 ab, .int .i64 ai, .int .i64 af, .int .i64 a6, .slice a2 a4 a3, .int .u64 ae] ∧ I0 k vs ww, bi, ⟨a7, h0⟩, fun ba an bh hI => ?_⟩
  obtain ⟨a7, hI⟩ := hI
  have h := h ba an bh hI
  refine bif_fo (fun b2 => ?_) (fun b2 => ?_)
  ·have h := h.2 (Int.not_lt.1 (of_decide_eq_false b2))
   refine ⟨a1, ad, ah, ak, aj, ac, a9, aa, a8, ag, ⟨a7.celli 0 rfl rfl, a7.celli 1 rfl rfl, a7.celli 2 rfl rfl, a7.celli 3 rfl rfl, a7.celli 4 rfl rfl, a7.celli 5 rfl rfl, a7.celli 6 rfl rfl, a7.celli 7 rfl rfl, trivial⟩, ?_⟩
   refine h.mono fun bb b7 h => ?_
   obtain ⟨ao, he, hk, h⟩ := h
   refine ⟨ao, he, ?_⟩
   have a7 := hk.blk a7 (by simp)
   refine bif_of (fun b1 => ?_) (fun b1 => ?_)
   ·have h := h.1 (not_t b1)
    exact h
   have h := h.2 (not_f b1)
   refine ⟨a0, a5, ab, ai, af, a6, a2, a4, a3, ae, ⟨a7.celli 8 rfl rfl, a7.celli 9 rfl rfl, a7.celli 10 rfl rfl, a7.celli 11 rfl rfl, a7.celli 12 rfl rfl, a7.celli 13 rfl rfl, a7.celli 14 rfl rfl, a7.celli 15 rfl rfl, trivial⟩, ?_⟩
   refine h.mono fun bc bf h => ?_
   obtain ⟨am, he, h⟩ := h
   refine ⟨am, he, ?_⟩
   refine bif_of (fun b3 => ?_) (fun b3 => ?_)
   ·have h := h.1 (not_t b3)
    exact h
   have h := h.2 (not_f b3)
   exact h
  have h := h.1 (of_decide_eq_true b2)
  obtain ⟨b9, bl, h⟩ := h
  refine ⟨b9, bl, ?_⟩
  refine ⟨fun hk => ?_, fun hk => ?_, fun hk => ?_, fun hk => ?_, trivial⟩
  ·have h := h.1 hk
   refine (Q02.pure a1 ad ah ak aj ac a9 aa a8 ag a0 a5 ab ai af a6 a2 a4 a3 ae).mono fun ee ww26 ⟨he, hxx⟩ => ⟨(Q02.F a1 ad ah ak aj ac a9 aa a8 ag a0 a5 ab ai af a6 a2 a4 a3 ae), he, ?_⟩
   have au := (Ext.refl no an).trans hxx
   have a7 := a7.ext hxx id
   refine bif_of (fun b0 => ?_) (fun b0 => ?_)
   ·have h := h.1 (bne_t b0)
    have h := h ww26 au
    exact h
   have h := h.2 (bne_f b0)
   obtain ⟨aq, ar, h⟩ := h
   try rw [w64 aq ar]
   have h := h ww26 au
   obtain ⟨b8, hk, h⟩ := h
   exact ⟨b8, hk, a7, h⟩
  ·have h := h.2.1 hk
   refine (Q00.pure a1 ad ah ak aj ac a9 aa a8 ag a0 a5 ab ai af a6 a2 a4 a3 ae).mono fun ee ww29 ⟨he, hxx⟩ => ⟨(Q00.F a1 ad ah ak aj ac a9 aa a8 ag a0 a5 ab ai af a6 a2 a4 a3 ae), he, ?_⟩
   have av := (Ext.refl no an).trans hxx
   have a7 := a7.ext hxx id
   refine bif_of (fun az => ?_) (fun az => ?_)
   ·have h := h.1 (bne_t az)
    have h := h ww29 av
    exact h
   have h := h.2 (bne_f az)
   obtain ⟨aq, ar, h⟩ := h
   try rw [w64 aq ar]
   have h := h ww29 av
   obtain ⟨bg, hk, h⟩ := h
   exact ⟨bg, hk, a7, h⟩
  ·have h := h.2.2.1 hk
   refine (Q03.pure a1 ad ah ak aj ac a9 aa a8 ag a0 a5 ab ai af a6 a2 a4 a3 ae).mono fun ee ww32 ⟨he, hxx⟩ => ⟨(Q03.F a1 ad ah ak aj ac a9 aa a8 ag a0 a5 ab ai af a6 a2 a4 a3 ae), he, ?_⟩
   have aw := (Ext.refl no an).trans hxx
   have a7 := a7.ext hxx id
   refine bif_of (fun ay => ?_) (fun ay => ?_)
   ·have h := h.1 (bne_t ay)
    have h := h ww32 aw
    exact h
   have h := h.2 (bne_f ay)
   obtain ⟨aq, ar, h⟩ := h
   try rw [w64 aq ar]
   have h := h ww32 aw
   obtain ⟨bj, hk, h⟩ := h
   exact ⟨bj, hk, a7, h⟩
  have h := h.2.2.2 hk
  refine h.mono fun be bk h => ?_
  obtain ⟨ap, he, hk, h⟩ := h
  refine ⟨ap, he, ?_⟩
  have a7 := hk.blk a7 (by simp)
  refine bif_of (fun ax => ?_) (fun ax => ?_)
  ·have h := h.1 (bne_t ax)
   exact h
  have h := h.2 (bne_f ax)
  obtain ⟨aq, ar, h⟩ := h
  try rw [w64 aq ar]
  obtain ⟨bm, hk, h⟩ := h
  exact ⟨bm, hk, a7, h⟩

theorem Q0n.go (o1 : Option Addr) (ab a1 ad ah ak aj ac : Int) (a8 : Option Addr) (a9 a7 : Nat) (ag a0 a5 aa ai af a6 : Int) (a2 : Option Addr) (a4 a3 : Nat) (ae : Int) {R : RW} {w : World} (h : Q0n.N o1 ab a1 ad ah ak aj ac a8 a9 a7 ag a0 a5 aa ai af a6 a2 a4 a3 ae R w) : Calls Try.prog 11 #[.pointer o1, .int .u64 ab, .agg #[.int .i64 a1, .int .i64 ad, .int .u64 ah, .int .i64 ak, .int .i64 aj, .int .i64 ac, .slice a8 a9 a7, .int .u64 ag, .int .i64 a0, .int .i64 a5, .int .u64 aa, .int .i64 ai, .int .i64 af, .int .i64 a6, .slice a2 a4 a3, .int .u64 ae]] w fun e w' => ∃ v, e = .returned v ∧ R v w' := Q0n.ok o1 ab a1 ad ah ak aj ac a8 a9 a7 ag a0 a5 aa ai af a6 a2 a4 a3 ae (Q0n.up o1 ab a1 ad ah ak aj ac a8 a9 a7 ag a0 a5 aa ai af a6 a2 a4 a3 ae h)
theorem Q0n.run (o1 : Option Addr) (ab a1 ad ah ak aj ac : Int) (a8 : Option Addr) (a9 a7 : Nat) (ag a0 a5 aa ai af a6 : Int) (a2 : Option Addr) (a4 a3 : Nat) (ae : Int) {V : Value} {Q : World → Prop} {w : World} (h : Q0n.N o1 ab a1 ad ah ak aj ac a8 a9 a7 ag a0 a5 aa ai af a6 a2 a4 a3 ae (fun v w' => v = V ∧ Q w') w) : Calls Try.prog 11 #[.pointer o1, .int .u64 ab, .agg #[.int .i64 a1, .int .i64 ad, .int .u64 ah, .int .i64 ak, .int .i64 aj, .int .i64 ac, .slice a8 a9 a7, .int .u64 ag, .int .i64 a0, .int .i64 a5, .int .u64 aa, .int .i64 ai, .int .i64 af, .int .i64 a6, .slice a2 a4 a3, .int .u64 ae]] w (Ret V Q) := (Q0n.go o1 ab a1 ad ah ak aj ac a8 a9 a7 ag a0 a5 aa ai af a6 a2 a4 a3 ae h).mono fun e w' ⟨v, he, hv, hq⟩ => ⟨by rw [he, hv], hq⟩

def Q0p.M (an au ay b3 b4 ax : Int) (av : Option Addr) (aw ar : Nat) (b5 : Int) (R : RW) (w : World) : Prop :=
 thenW (w.alloc (.cells #[.int .i64 an, .int .i64 au, .int .u64 ay, .int .i64 b3, .int .i64 b4, .int .i64 ax, .slice av aw ar, .int .u64 b5] 36)) fun b7 =>
 thenW (b7.alloc (.cells #[.int .i64 0, .int .i64 0, .int .u64 0, .int .i64 0, .int .i64 0, .int .i64 0, .slice none 0 0, .int .u64 0] 36)) fun az =>
 ∃ (ak : Option Addr) (aj al : Nat), az.cell? ((blk w.heap.size).add 6) = some (.slice ak aj al) ∧
 Calls Try.prog 34 #[.slice ak aj al] az fun b6 b0 => ∃ (aa : Option Addr) (ag a8 : Nat), b6 = .returned (.slice aa ag a8) ∧
 Q06 b0 (((blk w.heap.size).add 6).add 0) ∧
 thenW (b0.setCell (((blk w.heap.size).add 6).add 0) (.slice aa ag a8)) fun b1 =>
 ∃ (a6 ad am aq ap af : Int) (ac : Option Addr) (a9 ah : Nat) (ao : Int), cellsAt b1 (blk w.heap.size) [.int .i64 a6, .int .i64 ad, .int .u64 am, .int .i64 aq, .int .i64 ap, .int .i64 af, .slice ac a9 ah, .int .u64 ao] 0 ∧
 putsK b1 (blk b7.heap.size) [.int .i64 a6, .int .i64 ad, .int .u64 am, .int .i64 aq, .int .i64 ap, .int .i64 af, .slice ac a9 ah, .int .u64 ao] 0 fun b2 =>
 ∃ (a0 a5 a7 ae ab a2 : Int) (a3 : Option Addr) (a1 a4 : Nat) (ai : Int), cellsAt b2 (blk b7.heap.size) [.int .i64 a0, .int .i64 a5, .int .u64 a7, .int .i64 ae, .int .i64 ab, .int .i64 a2, .slice a3 a1 a4, .int .u64 ai] 0 ∧
 R (.agg #[.int .i64 a0, .int .i64 a5, .int .u64 a7, .int .i64 ae, .int .i64 ab, .int .i64 a2, .slice a3 a1 a4, .int .u64 ai]) b2

theorem Q0p.ok (a0 a2 a6 a9 a7 a4 : Int) (a3 : Option Addr) (a5 a1 : Nat) (a8 : Int) {R : RW} {w : World} (h : Q0p.M a0 a2 a6 a9 a7 a4 a3 a5 a1 a8 R w) : Calls Try.prog 22 #[.agg #[.int .i64 a0, .int .i64 a2, .int .u64 a6, .int .i64 a9, .int .i64 a7, .int .i64 a4, .slice a3 a5 a1, .int .u64 a8]] w fun e w' => ∃ v, e = .returned v ∧ R v w' :=
  Q0m follows (H := []) (args := [.agg #[.int .i64 a0, .int .i64 a2, .int .u64 a6, .int .i64 a9, .int .i64 a7, .int .i64 a4, .slice a3 a5 a1, .int .u64 a8]]) (cast (by kernel_rfl) h)

def Q0p.N (a3 a6 aa ac ad a9 : Int) (a7 : Option Addr) (a8 a4 : Nat) (ae : Int) (R : RW) (w : World) : Prop :=
 ∀ (a5 : World) (ag ai : Nat), Ext no w a5 → Priv w a5 [ag, ai] →
 Calls Try.prog 34 #[.slice a7 a8 a4] a5 fun ah ab => ∃ (a1 : Option Addr) (a2 a0 : Nat), ah = .returned (.slice a1 a2 a0) ∧
 Keep [ag, ai] a5 ab ∧
 ∀ (af : World), Ext (fun b => b = ai ∨ b = ag) ab af →
 R (.agg #[.int .i64 a3, .int .i64 a6, .int .u64 aa, .int .i64 ac, .int .i64 ad, .int .i64 a9, .slice a1 a2 a0, .int .u64 ae]) af

theorem Q0p.up (a0 a4 a6 a7 a8 a5 : Int) (ab : Option Addr) (ac aa : Nat) (a9 : Int) {R : RW} {w : World} (h : Q0p.N a0 a4 a6 a7 a8 a5 ab ac aa a9 R w) : Q0p.M a0 a4 a6 a7 a8 a5 ab ac aa a9 R w := by
  unfold Q0p.M
  unfold Q0p.N at h
  refine Q01 fun ap e9 => ?_
  have ad := Blk.of_new e9
  have ax := ((Ext.refl no w)).size
  have au := (Ext.refl no w).x_alloc e9
  refine Q01 fun aj ar => ?_
  have ae := Blk.of_new ar
  have av := (au).size
  have ag := Nat.ne_of_lt ad.lt
  have ad := ad.x_alloc ar
  have ak := au.x_alloc ar
  refine ⟨ab, ac, aa, ad.celli 6 rfl rfl, ?_⟩
  have h := h aj (w.heap.size) (ap.heap.size) ak (Priv.cons ax ad.lt (Priv.cons av ae.lt Priv.nil))
  refine h.mono fun aw af h => ?_
  obtain ⟨a2, a3, a1, he, hk, h⟩ := h
  refine ⟨a2, a3, a1, he, ?_⟩
  have ad := hk.blk ad (by simp)
  have ae := hk.blk ae (by simp)
  have am : Ext (fun b => b = w.heap.size) af af := ((Ext.refl no af)).none
  refine ⟨ad.cani 6 rfl rfl, Q01 fun ah al => ?_⟩
  have an := am.x_set (q := w.heap.size) (i := 6) rfl (.inl rfl) al
  have ad : Blk ah w.heap.size 36 [.int .i64 a0, .int .i64 a4, .int .u64 a6, .int .i64 a7, .int .i64 a8, .int .i64 a5, .slice a2 a3 a1, .int .u64 a9] := ad.seti 6 rfl al
  have ae := ae.oth (q := w.heap.size) (i := 6) rfl (Ne.symm ag) al
  refine ⟨a0, a4, a6, a7, a8, a5, a2, a3, a1, a9, ⟨ad.celli 0 rfl rfl, ad.celli 1 rfl rfl, ad.celli 2 rfl rfl, ad.celli 3 rfl rfl, ad.celli 4 rfl rfl, ad.celli 5 rfl rfl, ad.celli 6 rfl rfl, ad.celli 7 rfl rfl, trivial⟩, ?_⟩
  have ao : Ext (fun b => b = ap.heap.size ∨ b = w.heap.size) af ah := (an).mono fun _ h _ => .inr h
  refine Q0H (k := 0) (j := 0) ae (by exact Nat.le_of_ble_eq_true rfl) fun ai ay az => ?_
  have aq := ao.x_puts ay (.inl (.inl rfl))
  have ae : Blk ai ap.heap.size 36 [.int .i64 a0, .int .i64 a4, .int .u64 a6, .int .i64 a7, .int .i64 a8, .int .i64 a5, .slice a2 a3 a1, .int .u64 a9] := az
  refine ⟨a0, a4, a6, a7, a8, a5, a2, a3, a1, a9, ⟨ae.celli 0 rfl rfl, ae.celli 1 rfl rfl, ae.celli 2 rfl rfl, ae.celli 3 rfl rfl, ae.celli 4 rfl rfl, ae.celli 5 rfl rfl, ae.celli 6 rfl rfl, ae.celli 7 rfl rfl, trivial⟩, ?_⟩
  have h := h ai aq
  exact h

theorem Q0p.go (a0 a2 a6 a9 a7 a4 : Int) (a3 : Option Addr) (a5 a1 : Nat) (a8 : Int) {R : RW} {w : World} (h : Q0p.N a0 a2 a6 a9 a7 a4 a3 a5 a1 a8 R w) : Calls Try.prog 22 #[.agg #[.int .i64 a0, .int .i64 a2, .int .u64 a6, .int .i64 a9, .int .i64 a7, .int .i64 a4, .slice a3 a5 a1, .int .u64 a8]] w fun e w' => ∃ v, e = .returned v ∧ R v w' := Q0p.ok a0 a2 a6 a9 a7 a4 a3 a5 a1 a8 (Q0p.up a0 a2 a6 a9 a7 a4 a3 a5 a1 a8 h)
def Q0l.M  (R : RW) (w : World) : Prop :=
 thenW (w.alloc (.map #[] 0)) fun a0 =>
 thenW (a0.alloc (.cells #[.map (some w.heap.size)] 69)) fun a1 =>
 R (.pointer (some (blk a0.heap.size))) a1

theorem Q0l.ok  {R : RW} {w : World} (h : Q0l.M  R w) : Calls Try.prog 7 #[] w fun e w' => ∃ v, e = .returned v ∧ R v w' :=
  Q0m follows (H := []) (args := []) (cast (by kernel_rfl) h)

def Q0l.N  (R : RW) (w : World) : Prop :=
 ∀ (a0 : World) (q2 : Nat), Ext no w a0 → a0.heap[q2]? = some (.map #[] 0) → w.heap.size ≤ q2 → q2 < a0.heap.size →
 ∀ (a1 : World) (q4 : Nat), Ext no a0 a1 → Blk a1 q4 69 [.map (some q2)] → a0.heap.size ≤ q4 → q4 < a1.heap.size →
 R (.pointer (some (blk q4))) a1

theorem Q0l.up  {R : RW} {w : World} (h : Q0l.N  R w) : Q0l.M  R w := by
  unfold Q0l.M
  unfold Q0l.N at h
  refine Q01 fun a0 e1 => ?_
  have h := h a0 w.heap.size ((Ext.refl no w).x_alloc e1) (Q3S e1) (Nat.le_refl _) (Q0C e1)
  refine Q01 fun a1 e3 => ?_
  have h := h a1 a0.heap.size ((Ext.refl no a0).x_alloc e3) (Blk.of_new e3) ((Ext.refl no a0)).size (Q0C e3)
  exact h

theorem Q0l.go  {R : RW} {w : World} (h : Q0l.N  R w) : Calls Try.prog 7 #[] w fun e w' => ∃ v, e = .returned v ∧ R v w' := Q0l.ok  (Q0l.up  h)
abbrev Q04.J1 (bh : Bool) (b3 : Addr) (bi : Option Addr) (R : RW) (bc : World) : Prop :=
 bif !bh then (
 thenW (bc.drew) fun ar =>
 bi.elim False fun be =>
 ∃ (bb : Option Nat), ar.cell? (be.add 0) = some (.map bb) ∧
 ∃ (a0 : Int), ar.cell? ((b3.add 0).add 0) = some (.int .i64 a0) ∧
 ∃ (a7 ac au b2 b1 ab : Int) (af : Option Addr) (ad a9 : Nat) (ay : Int), cellsAt ar (b3.add 0) [.int .i64 a7, .int .i64 ac, .int .u64 au, .int .i64 b2, .int .i64 b1, .int .i64 ab, .slice af ad a9, .int .u64 ay] 0 ∧
 ∃ (a1 a4 a8 ah ag a3 : Int) (a6 : Option Addr) (a2 a5 : Nat) (ai : Int), cellsAt ar (b3.add 8) [.int .i64 a1, .int .i64 a4, .int .u64 a8, .int .i64 ah, .int .i64 ag, .int .i64 a3, .slice a6 a2 a5, .int .u64 ai] 0 ∧
 Calls Try.prog 22 #[.agg #[.int .i64 a7, .int .i64 ac, .int .u64 au, .int .i64 b2, .int .i64 b1, .int .i64 ab, .slice af ad a9, .int .u64 ay]] ar fun bf az => ∃ (aa am b0 b4 b7 ak : Int) (an : Option Addr) (aw ao : Nat) (b8 : Int), bf = .returned (.agg #[.int .i64 aa, .int .i64 am, .int .u64 b0, .int .i64 b4, .int .i64 b7, .int .i64 ak, .slice an aw ao, .int .u64 b8]) ∧
 cellsAt az (b3.add 8) [.int .i64 a1, .int .i64 a4, .int .u64 a8, .int .i64 ah, .int .i64 ag, .int .i64 a3, .slice a6 a2 a5, .int .u64 ai] 0 ∧
 az.cell? ((b3.add 0).add 0) = some (.int .i64 a0) ∧
 az.cell? (be.add 0) = some (.map bb) ∧
 Calls Try.prog 22 #[.agg #[.int .i64 a1, .int .i64 a4, .int .u64 a8, .int .i64 ah, .int .i64 ag, .int .i64 a3, .slice a6 a2 a5, .int .u64 ai]] az fun bg b6 => ∃ (ae aq ax b9 b5 aj : Int) (av : Option Addr) (ap al : Nat) (ba : Int), bg = .returned (.agg #[.int .i64 ae, .int .i64 aq, .int .u64 ax, .int .i64 b9, .int .i64 b5, .int .i64 aj, .slice av ap al, .int .u64 ba]) ∧
 b6.cell? ((b3.add 0).add 0) = some (.int .i64 a0) ∧
 b6.cell? (be.add 0) = some (.map bb) ∧
 ∃ bd : World, (Instr.mapUpdate 67 (.map bb) (.int .i64 a0) (.agg #[.int .i64 aa, .int .i64 am, .int .u64 b0, .int .i64 b4, .int .i64 b7, .int .i64 ak, .slice an aw ao, .int .u64 b8, .int .i64 ae, .int .i64 aq, .int .u64 ax, .int .i64 b9, .int .i64 b5, .int .i64 aj, .slice av ap al, .int .u64 ba])).run Try.prog b6 = .ok () bd ∧
 R (.int .i64 0) bd) else (
 R (.int .i64 0) bc)

abbrev Q04.J2 (au : Addr) (av : Option Addr) (R : RW) (ar : World) : Prop :=
 thenW (ar.drew) fun af =>
 av.elim False fun aq =>
 ∃ (an : Option Nat), af.cell? (aq.add 0) = some (.map an) ∧
 ∃ (a0 : Int), af.cell? ((au.add 0).add 0) = some (.int .i64 a0) ∧
 ∃ (a2 aa ad ag ai a6 : Int) (a4 : Option Addr) (ac a3 : Nat) (ah a1 a8 ae al ak a9 : Int) (a5 : Option Addr) (a7 ab : Nat) (aj : Int) (ao : Bool), (Instr.lookup 67 (.map an) (.int .i64 a0) true).run Try.prog af = .ok (.tuple #[.agg #[.int .i64 a2, .int .i64 aa, .int .u64 ad, .int .i64 ag, .int .i64 ai, .int .i64 a6, .slice a4 ac a3, .int .u64 ah, .int .i64 a1, .int .i64 a8, .int .u64 ae, .int .i64 al, .int .i64 ak, .int .i64 a9, .slice a5 a7 ab, .int .u64 aj], .bool ao]) af ∧
 thenW (af.alloc (.cells #[.int .i64 0, .int .i64 0, .int .u64 0, .int .i64 0, .int .i64 0, .int .i64 0, .slice none 0 0, .int .u64 0, .int .i64 0, .int .i64 0, .int .u64 0, .int .i64 0, .int .i64 0, .int .i64 0, .slice none 0 0, .int .u64 0] 38)) fun am =>
 (Instr.lookup 67 (.map an) (.int .i64 a0) true).run Try.prog am = .ok (.tuple #[.agg #[.int .i64 a2, .int .i64 aa, .int .u64 ad, .int .i64 ag, .int .i64 ai, .int .i64 a6, .slice a4 ac a3, .int .u64 ah, .int .i64 a1, .int .i64 a8, .int .u64 ae, .int .i64 al, .int .i64 ak, .int .i64 a9, .slice a5 a7 ab, .int .u64 aj], .bool ao]) am ∧
 am.cell? ((au.add 0).add 0) = some (.int .i64 a0) ∧
 am.cell? (aq.add 0) = some (.map an) ∧
 putsK am (blk af.heap.size) [.int .i64 a2, .int .i64 aa, .int .u64 ad, .int .i64 ag, .int .i64 ai, .int .i64 a6, .slice a4 ac a3, .int .u64 ah, .int .i64 a1, .int .i64 a8, .int .u64 ae, .int .i64 al, .int .i64 ak, .int .i64 a9, .slice a5 a7 ab, .int .u64 aj] 0 fun ap =>
 Q04.J1 ao au av R ap

abbrev Q04.J3 (ao : Addr) (ap ar : Option Addr) (aq : Int) (R : RW) (am : World) : Prop :=
 ∃ (a0 a8 ad af ak a7 : Int) (a9 : Option Addr) (aa a5 : Nat) (ag a1 a3 ae aj ah a4 : Int) (ab : Option Addr) (a2 a6 : Nat) (ai : Int), cellsAt am ao [.int .i64 a0, .int .i64 a8, .int .u64 ad, .int .i64 af, .int .i64 ak, .int .i64 a7, .slice a9 aa a5, .int .u64 ag, .int .i64 a1, .int .i64 a3, .int .u64 ae, .int .i64 aj, .int .i64 ah, .int .i64 a4, .slice ab a2 a6, .int .u64 ai] 0 ∧
 Calls Try.prog 11 #[.pointer ar, .int .u64 aq, .agg #[.int .i64 a0, .int .i64 a8, .int .u64 ad, .int .i64 af, .int .i64 ak, .int .i64 a7, .slice a9 aa a5, .int .u64 ag, .int .i64 a1, .int .i64 a3, .int .u64 ae, .int .i64 aj, .int .i64 ah, .int .i64 a4, .slice ab a2 a6, .int .u64 ai]] am fun an al => ∃ (ac : Int), an = .returned (.int .i64 ac) ∧
 bif ac != 0 then (
 R (.int .i64 ac) al) else (
 Q04.J2 ao ap R al)

def Q04.M (a1 o2 : Option Addr) (ac a2 ad ai ak al ae : Int) (a7 : Option Addr) (a8 a5 : Nat) (ah a0 a9 ab ag aj a4 : Int) (aa : Option Addr) (a6 a3 : Nat) (af : Int) (R : RW) (w : World) : Prop :=
 thenW (w.alloc (.cells #[.int .i64 a2, .int .i64 ad, .int .u64 ai, .int .i64 ak, .int .i64 al, .int .i64 ae, .slice a7 a8 a5, .int .u64 ah, .int .i64 a0, .int .i64 a9, .int .u64 ab, .int .i64 ag, .int .i64 aj, .int .i64 a4, .slice aa a6 a3, .int .u64 af] 38)) fun am =>
 bif Option.isNone a1 then (
 R (.int .i64 23) am) else (
 Q04.J3 (blk w.heap.size) a1 o2 ac R am)

theorem Q04.ok (a1 o2 : Option Addr) (ac a2 ad ai ak al ae : Int) (a7 : Option Addr) (a8 a5 : Nat) (ah a0 a9 ab ag aj a4 : Int) (aa : Option Addr) (a6 a3 : Nat) (af : Int) {R : RW} {w : World} (h : Q04.M a1 o2 ac a2 ad ai ak al ae a7 a8 a5 ah a0 a9 ab ag aj a4 aa a6 a3 af R w) : Calls Try.prog 10 #[.pointer a1, .pointer o2, .int .u64 ac, .agg #[.int .i64 a2, .int .i64 ad, .int .u64 ai, .int .i64 ak, .int .i64 al, .int .i64 ae, .slice a7 a8 a5, .int .u64 ah, .int .i64 a0, .int .i64 a9, .int .u64 ab, .int .i64 ag, .int .i64 aj, .int .i64 a4, .slice aa a6 a3, .int .u64 af]] w fun e w' => ∃ v, e = .returned v ∧ R v w' :=
  Q0m follows (H := []) (args := [.pointer a1, .pointer o2, .int .u64 ac, .agg #[.int .i64 a2, .int .i64 ad, .int .u64 ai, .int .i64 ak, .int .i64 al, .int .i64 ae, .slice a7 a8 a5, .int .u64 ah, .int .i64 a0, .int .i64 a9, .int .u64 ab, .int .i64 ag, .int .i64 aj, .int .i64 a4, .slice aa a6 a3, .int .u64 af]]) (cast (by kernel_rfl) h)

def Q04.N (a1 o2 : Option Addr) (bo a0 af b1 bg bm al : Int) (ac : Option Addr) (a9 a5 : Nat) (ax a3 a6 ai b8 b6 ab : Int) (aa : Option Addr) (a4 a7 : Nat) (bb : Int) (R : RW) (w : World) : Prop :=
 (a1 = none →
 ∀ (av : World), Ext no w av →
 R (.int .i64 23) av) ∧
 (a1 ≠ none →
 ∀ (av : World) (c4 : Nat), Ext no w av → Priv w av [c4] →
 Calls Try.prog 11 #[.pointer o2, .int .u64 bo, .agg #[.int .i64 a0, .int .i64 af, .int .u64 b1, .int .i64 bg, .int .i64 bm, .int .i64 al, .slice ac a9 a5, .int .u64 ax, .int .i64 a3, .int .i64 a6, .int .u64 ai, .int .i64 b8, .int .i64 b6, .int .i64 ab, .slice aa a4 a7, .int .u64 bb]] av fun ca bq => ∃ (a2 : Int), ca = .returned (.int .i64 a2) ∧
 Keep [c4] av bq ∧
 (a2 ≠ 0 →
 R (.int .i64 a2) bq) ∧
 (a2 = 0 →
 ∃ c1 : Addr, a1 = some c1 ∧
 ∃ (c6 : Option Nat), bq.cell? (c1.add 0) = some (.map c6) ∧
 ∀ (be : World), Ext no bq be →
 ∃ (ad aq bd bp bl am : Int) (au : Option Addr) (ar ah : Nat) (bk a8 aj b3 bh bj ap : Int) (ae : Option Addr) (ak ag : Nat) (bf : Int) (c7 : Bool), (Instr.lookup 67 (.map c6) (.int .i64 a0) true).run Try.prog be = .ok (.tuple #[.agg #[.int .i64 ad, .int .i64 aq, .int .u64 bd, .int .i64 bp, .int .i64 bl, .int .i64 am, .slice au ar ah, .int .u64 bk, .int .i64 a8, .int .i64 aj, .int .u64 b3, .int .i64 bh, .int .i64 bj, .int .i64 ap, .slice ae ak ag, .int .u64 bf], .bool c7]) be ∧
 ∀ (aw : World) (c9 : Nat), Ext no be aw → Priv be aw [c9] →
 (Instr.lookup 67 (.map c6) (.int .i64 a0) true).run Try.prog aw = .ok (.tuple #[.agg #[.int .i64 ad, .int .i64 aq, .int .u64 bd, .int .i64 bp, .int .i64 bl, .int .i64 am, .slice au ar ah, .int .u64 bk, .int .i64 a8, .int .i64 aj, .int .u64 b3, .int .i64 bh, .int .i64 bj, .int .i64 ap, .slice ae ak ag, .int .u64 bf], .bool c7]) aw ∧
 aw.cell? (c1.add 0) = some (.map c6) ∧
 (c7 = false →
 ∀ (br : World), Ext (fun b => b = c9) aw br →
 ∃ (c5 : Option Nat), br.cell? (c1.add 0) = some (.map c5) ∧
 Calls Try.prog 22 #[.agg #[.int .i64 a0, .int .i64 af, .int .u64 b1, .int .i64 bg, .int .i64 bm, .int .i64 al, .slice ac a9 a5, .int .u64 ax]] br fun cb bs => ∃ (ao b4 bn bz bw bc : Int) (ay : Option Addr) (b7 b9 : Nat) (bu : Int), cb = .returned (.agg #[.int .i64 ao, .int .i64 b4, .int .u64 bn, .int .i64 bz, .int .i64 bw, .int .i64 bc, .slice ay b7 b9, .int .u64 bu]) ∧
 Keep [c4] br bs ∧
 bs.cell? (c1.add 0) = some (.map c5) ∧
 Calls Try.prog 22 #[.agg #[.int .i64 a3, .int .i64 a6, .int .u64 ai, .int .i64 b8, .int .i64 b6, .int .i64 ab, .slice aa a4 a7, .int .u64 bb]] bs fun c8 c0 => ∃ (an b0 bi bv bx b5 : Int) (az : Option Addr) (ba b2 : Nat) (bt : Int), c8 = .returned (.agg #[.int .i64 an, .int .i64 b0, .int .u64 bi, .int .i64 bv, .int .i64 bx, .int .i64 b5, .slice az ba b2, .int .u64 bt]) ∧
 Keep [c4] bs c0 ∧
 c0.cell? (c1.add 0) = some (.map c5) ∧
 ∃ (c3 : World), (Instr.mapUpdate 67 (.map c5) (.int .i64 a0) (.agg #[.int .i64 ao, .int .i64 b4, .int .u64 bn, .int .i64 bz, .int .i64 bw, .int .i64 bc, .slice ay b7 b9, .int .u64 bu, .int .i64 an, .int .i64 b0, .int .u64 bi, .int .i64 bv, .int .i64 bx, .int .i64 b5, .slice az ba b2, .int .u64 bt])).run Try.prog c0 = .ok () c3 ∧
 R (.int .i64 0) c3) ∧
 (c7 = true →
 ∀ (c2 : World), Ext (fun b => b = c9) aw c2 →
 R (.int .i64 0) c2)))

theorem Q04.up (a1 o2 : Option Addr) (az a2 ac ag am an ae : Int) (ab : Option Addr) (a8 a5 : Nat) (af a3 a6 ad ai ah aa : Int) (a9 : Option Addr) (a4 a7 : Nat) (aj : Int) {R : RW} {w : World} (h : Q04.N a1 o2 az a2 ac ag am an ae ab a8 a5 af a3 a6 ad ai ah aa a9 a4 a7 aj R w) : Q04.M a1 o2 az a2 ac ag am an ae ab a8 a5 af a3 a6 ad ai ah aa a9 a4 a7 aj R w := by
  unfold Q04.M
  unfold Q04.N at h
  refine Q01 fun bq co => ?_
  have a0 := Blk.of_new co
  have cz := ((Ext.refl no w)).size
  have bx := (Ext.refl no w).x_alloc co
  refine bif_of (fun cj => ?_) (fun cj => ?_)
  ·have h := h.1 (Q1j cj)
   have h := h bq bx
   exact h
  have h := h.2 (Q1i cj)
  first | unfold Q04.J3 | skip
  refine ⟨a2, ac, ag, am, an, ae, ab, a8, a5, af, a3, a6, ad, ai, ah, aa, a9, a4, a7, aj, ⟨a0.celli 0 rfl rfl, a0.celli 1 rfl rfl, a0.celli 2 rfl rfl, a0.celli 3 rfl rfl, a0.celli 4 rfl rfl, a0.celli 5 rfl rfl, a0.celli 6 rfl rfl, a0.celli 7 rfl rfl, a0.celli 8 rfl rfl, a0.celli 9 rfl rfl, a0.celli 10 rfl rfl, a0.celli 11 rfl rfl, a0.celli 12 rfl rfl, a0.celli 13 rfl rfl, a0.celli 14 rfl rfl, a0.celli 15 rfl rfl, trivial⟩, ?_⟩
  have h := h bq (w.heap.size) bx (Priv.cons cz a0.lt Priv.nil)
  refine h.mono fun cs c7 h => ?_
  obtain ⟨bj, he, hk, h⟩ := h
  refine ⟨bj, he, ?_⟩
  have a0 := hk.blk a0 (by simp)
  refine bif_of (fun c8 => ?_) (fun c8 => ?_)
  ·have h := h.1 (bne_t c8)
   exact h
  have h := h.2 (bne_f c8)
  first | unfold Q04.J2 | skip
  refine Q01 fun b3 cn => ?_
  have bw := (Ext.refl no c7).x_drew cn
  have a0 := a0.x_drew cn
  obtain ⟨d1, bz, h⟩ := h
  refine Q0F bz ?_
  obtain ⟨cv, ch, h⟩ := h
  refine ⟨cv, (bw).cell ch id, ?_⟩
  refine ⟨a2, a0.celli 0 rfl rfl, ?_⟩
  have h := h b3 bw
  obtain ⟨al, ax, b2, bb, ba, av, b0, ay, aq, b9, ak, ar, b1, b5, b7, aw, ao, au, ap, b4, cw, cg, h⟩ := h
  refine ⟨al, ax, b2, bb, ba, av, b0, ay, aq, b9, ak, ar, b1, b5, b7, aw, ao, au, ap, b4, cw, cg, ?_⟩
  refine Q01 fun bg c5 => ?_
  have c4 := Blk.of_new c5
  have cr := ((Ext.refl no b3)).size
  have bu := Nat.ne_of_lt a0.lt
  have a0 := a0.x_alloc c5
  have cb := (Ext.refl no b3).x_alloc c5
  have h := h bg (b3.heap.size) cb (Priv.cons cr c4.lt Priv.nil)
  obtain ⟨ck, ci, h⟩ := h
  refine ⟨ck, a0.celli 0 rfl rfl, ci, ?_⟩
  have c6 : Ext (fun b => b = b3.heap.size) bg bg := ((Ext.refl no bg)).none
  refine Q0H (k := 0) (j := 0) c4 (by exact Nat.le_of_ble_eq_true rfl) fun bv cp cy => ?_
  have c3 := c6.x_puts cp (.inl rfl)
  have a0 := a0.x_puts cp bu
  have c4 : Blk bv b3.heap.size 38 [.int .i64 al, .int .i64 ax, .int .u64 b2, .int .i64 bb, .int .i64 ba, .int .i64 av, .slice b0 ay aq, .int .u64 b9, .int .i64 ak, .int .i64 ar, .int .u64 b1, .int .i64 b5, .int .i64 b7, .int .i64 aw, .slice ao au ap, .int .u64 b4] := cy
  first | unfold Q04.J1 | skip
  refine bif_fo (fun cf => ?_) (fun cf => ?_)
  ·have h := h.2 (not_f cf)
   have h := h bv c3
   exact h
  have h := h.1 (not_t cf)
  refine Q01 fun c9 cm => ?_
  have cc := c3.x_drew cm
  have a0 := a0.x_drew cm
  refine Q0F bz ?_
  have h := h c9 cc
  obtain ⟨cu, ce, h⟩ := h
  refine ⟨cu, ce, ?_⟩
  refine ⟨a2, a0.celli 0 rfl rfl, ?_⟩
  refine ⟨a2, ac, ag, am, an, ae, ab, a8, a5, af, ⟨a0.celli 0 rfl rfl, a0.celli 1 rfl rfl, a0.celli 2 rfl rfl, a0.celli 3 rfl rfl, a0.celli 4 rfl rfl, a0.celli 5 rfl rfl, a0.celli 6 rfl rfl, a0.celli 7 rfl rfl, trivial⟩, ?_⟩
  refine ⟨a3, a6, ad, ai, ah, aa, a9, a4, a7, aj, ⟨a0.celli 8 rfl rfl, a0.celli 9 rfl rfl, a0.celli 10 rfl rfl, a0.celli 11 rfl rfl, a0.celli 12 rfl rfl, a0.celli 13 rfl rfl, a0.celli 14 rfl rfl, a0.celli 15 rfl rfl, trivial⟩, ?_⟩
  refine h.mono fun ct d0 h => ?_
  obtain ⟨b8, bh, bp, c2, c0, bn, bc, bk, bl, bs, he, hk, h⟩ := h
  refine ⟨b8, bh, bp, c2, c0, bn, bc, bk, bl, bs, he, ?_⟩
  have a0 := hk.blk a0 (by simp)
  obtain ⟨ca, h⟩ := h
  refine ⟨⟨a0.celli 8 rfl rfl, a0.celli 9 rfl rfl, a0.celli 10 rfl rfl, a0.celli 11 rfl rfl, a0.celli 12 rfl rfl, a0.celli 13 rfl rfl, a0.celli 14 rfl rfl, a0.celli 15 rfl rfl, trivial⟩, a0.celli 0 rfl rfl, ca, ?_⟩
  refine h.mono fun cq cx h => ?_
  obtain ⟨b6, be, bo, bt, c1, bi, bd, bm, bf, br, he, hk, h⟩ := h
  refine ⟨b6, be, bo, bt, c1, bi, bd, bm, bf, br, he, ?_⟩
  have a0 := hk.blk a0 (by simp)
  obtain ⟨cd, h⟩ := h
  refine ⟨a0.celli 0 rfl rfl, cd, ?_⟩
  obtain ⟨cl, hr, h⟩ := h
  refine ⟨cl, hr, ?_⟩
  exact h

theorem Q04.go (a1 o2 : Option Addr) (ac a2 ad ai ak al ae : Int) (a7 : Option Addr) (a8 a5 : Nat) (ah a0 a9 ab ag aj a4 : Int) (aa : Option Addr) (a6 a3 : Nat) (af : Int) {R : RW} {w : World} (h : Q04.N a1 o2 ac a2 ad ai ak al ae a7 a8 a5 ah a0 a9 ab ag aj a4 aa a6 a3 af R w) : Calls Try.prog 10 #[.pointer a1, .pointer o2, .int .u64 ac, .agg #[.int .i64 a2, .int .i64 ad, .int .u64 ai, .int .i64 ak, .int .i64 al, .int .i64 ae, .slice a7 a8 a5, .int .u64 ah, .int .i64 a0, .int .i64 a9, .int .u64 ab, .int .i64 ag, .int .i64 aj, .int .i64 a4, .slice aa a6 a3, .int .u64 af]] w fun e w' => ∃ v, e = .returned v ∧ R v w' := Q04.ok a1 o2 ac a2 ad ai ak al ae a7 a8 a5 ah a0 a9 ab ag aj a4 aa a6 a3 af (Q04.up a1 o2 ac a2 ad ai ak al ae a7 a8 a5 ah a0 a9 ab ag aj a4 aa a6 a3 af h)
theorem Q04.run (a1 o2 : Option Addr) (ac a2 ad ai ak al ae : Int) (a7 : Option Addr) (a8 a5 : Nat) (ah a0 a9 ab ag aj a4 : Int) (aa : Option Addr) (a6 a3 : Nat) (af : Int) {V : Value} {Q : World → Prop} {w : World} (h : Q04.N a1 o2 ac a2 ad ai ak al ae a7 a8 a5 ah a0 a9 ab ag aj a4 aa a6 a3 af (fun v w' => v = V ∧ Q w') w) : Calls Try.prog 10 #[.pointer a1, .pointer o2, .int .u64 ac, .agg #[.int .i64 a2, .int .i64 ad, .int .u64 ai, .int .i64 ak, .int .i64 al, .int .i64 ae, .slice a7 a8 a5, .int .u64 ah, .int .i64 a0, .int .i64 a9, .int .u64 ab, .int .i64 ag, .int .i64 aj, .int .i64 a4, .slice aa a6 a3, .int .u64 af]] w (Ret V Q) := (Q04.go a1 o2 ac a2 ad ai ak al ae a7 a8 a5 ah a0 a9 ab ag aj a4 aa a6 a3 af h).mono fun e w' ⟨v, he, hv, hq⟩ => ⟨by rw [he, hv], hq⟩

def Q0c.M (a1 : Option Addr) (R : RW) (w : World) : Prop :=
 bif !(Option.isNone a1) then (
 a1.elim False fun a2 =>
 ∃ (m3 : Option Nat), w.cell? (a2.add 0) = some (.map m3) ∧
 ∃ (n4 : Int), (Builtin.len_ #[67] 3 #[.map m3]).run Try.prog w = .ok (.int .i64 n4) w ∧
 R (.bool (decide (n4 > 0))) w) else (
 R (.bool false) w)

theorem Q0c.ok (a1 : Option Addr) {R : RW} {w : World} (h : Q0c.M a1 R w) : Calls Try.prog 16 #[.pointer a1] w fun e w' => ∃ v, e = .returned v ∧ R v w' :=
  Q0m follows (H := []) (args := [.pointer a1]) (cast (by kernel_rfl) h)

def Q0c.N (a1 : Option Addr) (R : RW) (w : World) : Prop :=
 (a1 ≠ none →
 ∃ a3 : Addr, a1 = some a3 ∧
 ∃ (m5 : Option Nat), w.cell? (a3.add 0) = some (.map m5) ∧
 ∃ (n6 : Int), (Builtin.len_ #[67] 3 #[.map m5]).run Try.prog w = .ok (.int .i64 n6) w ∧
 R (.bool (decide (n6 > 0))) w) ∧
 (a1 = none →
 R (.bool false) w)

theorem Q0c.up (a1 : Option Addr) {R : RW} {w : World} (h : Q0c.N a1 R w) : Q0c.M a1 R w := by
  unfold Q0c.M
  unfold Q0c.N at h
  refine bif_fo (fun c2 => ?_) (fun c2 => ?_)
  ·have h := h.2 (Q1j (not_f c2))
   exact h
  have h := h.1 (Q1i (not_t c2))
  obtain ⟨a3, a4, h⟩ := h
  refine Q0F a4 ?_
  obtain ⟨m5, a0, h⟩ := h
  refine ⟨m5, a0, ?_⟩
  obtain ⟨n6, a2, h⟩ := h
  refine ⟨n6, a2, ?_⟩
  exact h

theorem Q0c.go (a1 : Option Addr) {R : RW} {w : World} (h : Q0c.N a1 R w) : Calls Try.prog 16 #[.pointer a1] w fun e w' => ∃ v, e = .returned v ∧ R v w' := Q0c.ok a1 (Q0c.up a1 h)
theorem Q0c.run (a1 : Option Addr) {V : Value} {Q : World → Prop} {w : World} (h : Q0c.N a1 (fun v w' => v = V ∧ Q w') w) : Calls Try.prog 16 #[.pointer a1] w (Ret V Q) := (Q0c.go a1 h).mono fun e w' ⟨v, he, hv, hq⟩ => ⟨by rw [he, hv], hq⟩

def Q0d.M  (R : RW) (w : World) : Prop :=
 Calls Try.prog 5 #[.slice none 0 0] w fun cr cq => ∃ (b9 : Option Addr), cr = .returned (.pointer b9) ∧
 Calls Try.prog 6 #[.pointer b9] cq fun cs cm => ∃ (br bb : Int), cs = .returned (.tuple #[.int .u64 br, .int .u64 bb]) ∧
 thenW (cm.alloc (.cells #[.int .u8 120] 5)) fun ct =>
 ∃ (cp : Option Addr) (cn co : Nat) (c4 : World), (convert 34 34 (.slice (some (blk cm.heap.size)) 1 1)).run Try.prog ct = .ok (.slice cp cn co) c4 ∧
 Calls Try.prog 9 #[.pointer b9, .int .u64 br, .agg #[.int .i64 0, .int .i64 0, .int .u64 0, .int .i64 1, .int .i64 0, .int .i64 0, .slice cp cn co, .int .u64 0]] c4 fun ch bm => ∃ (aj az ba bw bv b0 : Int) (b8 : Option Addr) (ax b5 : Nat) (c1 bg : Int), ch = .returned (.tuple #[.agg #[.int .i64 aj, .int .i64 az, .int .u64 ba, .int .i64 bw, .int .i64 bv, .int .i64 b0, .slice b8 ax b5, .int .u64 c1], .int .i64 bg]) ∧
 thenW (bm.alloc (.cells #[.int .i64 0, .int .i64 0, .int .u64 0, .int .i64 0, .int .i64 0, .int .i64 0, .slice none 0 0, .int .u64 0] 36)) fun cj =>
 putsK cj (blk bm.heap.size) [.int .i64 aj, .int .i64 az, .int .u64 ba, .int .i64 bw, .int .i64 bv, .int .i64 b0, .slice b8 ax b5, .int .u64 c1] 0 fun c5 =>
 thenW (c5.alloc (.cells #[.int .u8 121] 5)) fun cl =>
 ∃ (c7 : Option Addr) (c9 c8 : Nat) (c6 : World), (convert 34 34 (.slice (some (blk c5.heap.size)) 1 1)).run Try.prog cl = .ok (.slice c7 c9 c8) c6 ∧
 Calls Try.prog 9 #[.pointer b9, .int .u64 br, .agg #[.int .i64 0, .int .i64 0, .int .u64 0, .int .i64 1, .int .i64 0, .int .i64 0, .slice c7 c9 c8, .int .u64 0]] c6 fun cd c2 => ∃ (af b7 bn bx bz ay : Int) (av : Option Addr) (b1 b3 : Nat) (c0 bs : Int), cd = .returned (.tuple #[.agg #[.int .i64 af, .int .i64 b7, .int .u64 bn, .int .i64 bx, .int .i64 bz, .int .i64 ay, .slice av b1 b3, .int .u64 c0], .int .i64 bs]) ∧
 thenW (c2.alloc (.cells #[.int .i64 0, .int .i64 0, .int .u64 0, .int .i64 0, .int .i64 0, .int .i64 0, .slice none 0 0, .int .u64 0] 36)) fun cc =>
 putsK cc (blk c2.heap.size) [.int .i64 af, .int .i64 b7, .int .u64 bn, .int .i64 bx, .int .i64 bz, .int .i64 ay, .slice av b1 b3, .int .u64 c0] 0 fun ci =>
 Calls Try.prog 7 #[] ci fun ck c3 => ∃ (a0 : Option Addr), ck = .returned (.pointer a0) ∧
 ∃ (a3 a9 b2 bc bk a7 : Int) (ae : Option Addr) (ag ai : Nat) (bf : Int), cellsAt c3 (blk bm.heap.size) [.int .i64 a3, .int .i64 a9, .int .u64 b2, .int .i64 bc, .int .i64 bk, .int .i64 a7, .slice ae ag ai, .int .u64 bf] 0 ∧
 ∃ (a2 ab ar bj bp ap : Int) (ak : Option Addr) (ac an : Nat) (be : Int), cellsAt c3 (blk c2.heap.size) [.int .i64 a2, .int .i64 ab, .int .u64 ar, .int .i64 bj, .int .i64 bp, .int .i64 ap, .slice ak ac an, .int .u64 be] 0 ∧
 Calls Try.prog 10 #[.pointer a0, .pointer b9, .int .u64 bb, .agg #[.int .i64 a3, .int .i64 a9, .int .u64 b2, .int .i64 bc, .int .i64 bk, .int .i64 a7, .slice ae ag ai, .int .u64 bf, .int .i64 a2, .int .i64 ab, .int .u64 ar, .int .i64 bj, .int .i64 bp, .int .i64 ap, .slice ak ac an, .int .u64 be]] c3 fun cb bt => ∃ (b4 : Int), cb = .returned (.int .i64 b4) ∧
 bif bg == 0 then (
 bif bs == 0 then (
 bif b4 == 0 then (
 Calls Try.prog 16 #[.pointer a0] bt fun ce bu => ∃ (ca : Bool), ce = .returned (.bool ca) ∧
 bif ca then (
 ∃ (a1 a5 au bh bl aq : Int) (a6 : Option Addr) (al ad : Nat) (bi : Int), cellsAt bu (blk bm.heap.size) [.int .i64 a1, .int .i64 a5, .int .u64 au, .int .i64 bh, .int .i64 bl, .int .i64 aq, .slice a6 al ad, .int .u64 bi] 0 ∧
 ∃ (a4 ah aw bq bo aa : Int) (ao : Option Addr) (am a8 : Nat) (bd : Int), cellsAt bu (blk bm.heap.size) [.int .i64 a4, .int .i64 ah, .int .u64 aw, .int .i64 bq, .int .i64 bo, .int .i64 aa, .slice ao am a8, .int .u64 bd] 0 ∧
 Calls Try.prog 11 #[.pointer b9, .int .u64 bb, .agg #[.int .i64 a1, .int .i64 a5, .int .u64 au, .int .i64 bh, .int .i64 bl, .int .i64 aq, .slice a6 al ad, .int .u64 bi, .int .i64 a4, .int .i64 ah, .int .u64 aw, .int .i64 bq, .int .i64 bo, .int .i64 aa, .slice ao am a8, .int .u64 bd]] bu fun cf cg => ∃ (b6 : Int), cf = .returned (.int .i64 b6) ∧
 R (.bool (b6 == 8)) cg) else (
 R (.bool false) bu)) else (
 R (.bool false) bt)) else (
 R (.bool false) bt)) else (
 R (.bool false) bt)

theorem Q0d.ok  {R : RW} {w : World} (h : Q0d.M  R w) : Calls Try.prog 4 #[] w fun e w' => ∃ v, e = .returned v ∧ R v w' :=
  Q0m follows (H := []) (args := []) (cast (by kernel_rfl) h)

def Q0d.N  (R : RW) (w : World) : Prop :=
 Calls Try.prog 5 #[.slice none 0 0] w fun bm bn => ∃ (am : Option Addr), bm = .returned (.pointer am) ∧
 Calls Try.prog 6 #[.pointer am] bn fun bo bk => ∃ (ao aq : Int), bo = .returned (.tuple #[.int .u64 ao, .int .u64 aq]) ∧
 ∀ (bc : World) (q9 : Nat), Ext no bk bc → Blk bc q9 5 [.int .u8 120] → bk.heap.size ≤ q9 → q9 < bc.heap.size →
 ∃ (b8 : Option Addr) (b6 ba : Nat) (b7 : World), (convert 34 34 (.slice (some (blk q9)) 1 1)).run Try.prog bc = .ok (.slice b8 b6 ba) b7 ∧
 Calls Try.prog 9 #[.pointer am, .int .u64 ao, .agg #[.int .i64 0, .int .i64 0, .int .u64 0, .int .i64 1, .int .i64 0, .int .i64 0, .slice b8 b6 ba, .int .u64 0]] b7 fun be ay => ∃ (a1 a3 a8 ag af a4 : Int) (a6 : Option Addr) (a5 a2 : Nat) (ac ab : Int), be = .returned (.tuple #[.agg #[.int .i64 a1, .int .i64 a3, .int .u64 a8, .int .i64 ag, .int .i64 af, .int .i64 a4, .slice a6 a5 a2, .int .u64 ac], .int .i64 ab]) ∧
 ∀ (ap : World) (b9 b3 : Nat), Ext no ay ap → Blk ap b9 5 [.int .u8 121] → ay.heap.size ≤ b9 → b9 < ap.heap.size → Privq ay b9 [b3] →
 ∃ (b4 : Option Addr) (b5 bb : Nat) (au : World), (convert 34 34 (.slice (some (blk b9)) 1 1)).run Try.prog ap = .ok (.slice b4 b5 bb) au ∧
 Keep [b3] ap au ∧
 Calls Try.prog 9 #[.pointer am, .int .u64 ao, .agg #[.int .i64 0, .int .i64 0, .int .u64 0, .int .i64 1, .int .i64 0, .int .i64 0, .slice b4 b5 bb, .int .u64 0]] au fun bd az => ∃ (a9 aj an aw ax ah : Int) (ad : Option Addr) (ae ai : Nat) (av aa : Int), bd = .returned (.tuple #[.agg #[.int .i64 a9, .int .i64 aj, .int .u64 an, .int .i64 aw, .int .i64 ax, .int .i64 ah, .slice ad ae ai, .int .u64 av], .int .i64 aa]) ∧
 Keep [b3] au az ∧
 ∀ (ar : World) (bl : Nat), Ext no az ar → Priv az ar [bl] →
 Calls Try.prog 7 #[] ar fun bg b1 => ∃ (a0 : Option Addr), bg = .returned (.pointer a0) ∧
 Keep [b3, bl] ar b1 ∧
 Calls Try.prog 10 #[.pointer a0, .pointer am, .int .u64 aq, .agg #[.int .i64 a1, .int .i64 a3, .int .u64 a8, .int .i64 ag, .int .i64 af, .int .i64 a4, .slice a6 a5 a2, .int .u64 ac, .int .i64 a9, .int .i64 aj, .int .u64 an, .int .i64 aw, .int .i64 ax, .int .i64 ah, .slice ad ae ai, .int .u64 av]] b1 fun bi al => ∃ (a7 : Int), bi = .returned (.int .i64 a7) ∧
 Keep [b3] b1 al ∧
 (ab = 0 →
 (aa = 0 →
 (a7 = 0 →
 Calls Try.prog 16 #[.pointer a0] al fun bj b2 => ∃ (b0 : Bool), bj = .returned (.bool b0) ∧
 Keep [b3] al b2 ∧
 (b0 = true →
 Calls Try.prog 11 #[.pointer am, .int .u64 aq, .agg #[.int .i64 a1, .int .i64 a3, .int .u64 a8, .int .i64 ag, .int .i64 af, .int .i64 a4, .slice a6 a5 a2, .int .u64 ac, .int .i64 a1, .int .i64 a3, .int .u64 a8, .int .i64 ag, .int .i64 af, .int .i64 a4, .slice a6 a5 a2, .int .u64 ac]] b2 fun bh bf => ∃ (ak : Int), bh = .returned (.int .i64 ak) ∧
 R (.bool (ak == 8)) bf) ∧
 (b0 = false →
 R (.bool false) b2)) ∧
 (a7 ≠ 0 →
 R (.bool false) al)) ∧
 (aa ≠ 0 →
 R (.bool false) al)) ∧
 (ab ≠ 0 →
 R (.bool false) al)

theorem Q0d.up  {R : RW} {w : World} (h : Q0d.N  R w) : Q0d.M  R w := by
  unfold Q0d.M
  unfold Q0d.N at h
  refine h.mono fun c9 c8 h => ?_
  obtain ⟨bj, he, h⟩ := h
  refine ⟨bj, he, ?_⟩
  refine h.mono fun ca b8 h => ?_
  obtain ⟨az, aw, he, h⟩ := h
  refine ⟨az, aw, he, ?_⟩
  refine Q01 fun c3 e8 => ?_
  have h := h c3 b8.heap.size ((Ext.refl no b8).x_alloc e8) (Blk.of_new e8) ((Ext.refl no b8)).size (Q0C e8)
  obtain ⟨bg, b2, b9, b3, hr, h⟩ := h
  refine ⟨bg, b2, b9, b3, hr, ?_⟩
  refine h.mono fun c0 ap h => ?_
  obtain ⟨a1, a6, a8, ag, af, a5, a4, a3, a2, ae, au, he, h⟩ := h
  refine ⟨a1, a6, a8, ag, af, a5, a4, a3, a2, ae, au, he, ?_⟩
  refine Q01 fun br bo => ?_
  have a0 := Blk.of_new bo
  have bp := ((Ext.refl no ap)).size
  have be := (Ext.refl no ap).x_alloc bo
  refine Q0H (k := 0) (j := 0) a0 (by exact Nat.le_of_ble_eq_true rfl) fun b0 bq bv => ?_
  have av := be.x_puts bq (.inr bp)
  have a0 : Blk b0 ap.heap.size 36 [.int .i64 a1, .int .i64 a6, .int .u64 a8, .int .i64 ag, .int .i64 af, .int .i64 a5, .slice a4 a3 a2, .int .u64 ae] := bv
  refine Q01 fun b6 b1 => ?_
  have c1 := a0.lt
  have a0 := a0.x_alloc b1
  have h := h b6 b0.heap.size (ap.heap.size) (av.x_alloc b1) (Blk.of_new b1) (av).size (Q0C b1) (Privq.cons bp c1 Privq.nil)
  obtain ⟨b7, bc, b4, bf, hr, hk, h⟩ := h
  refine ⟨b7, bc, b4, bf, hr, ?_⟩
  have a0 := hk.blk a0 (by simp)
  refine h.mono fun c4 an h => ?_
  obtain ⟨a7, ac, ai, al, am, aa, a9, ab, ad, ak, ar, he, hk, h⟩ := h
  refine ⟨a7, ac, ai, al, am, aa, a9, ab, ad, ak, ar, he, ?_⟩
  have a0 := hk.blk a0 (by simp)
  refine Q01 fun c7 bh => ?_
  have aj := Blk.of_new bh
  have bm := ((Ext.refl no an)).size
  have ax := Nat.ne_of_lt a0.lt
  have a0 := a0.x_alloc bh
  have bk := (Ext.refl no an).x_alloc bh
  refine Q0H (k := 0) (j := 0) aj (by exact Nat.le_of_ble_eq_true rfl) fun ay bn bs => ?_
  have bb := bk.x_puts bn (.inr bm)
  have a0 := a0.x_puts bn ax
  have aj : Blk ay an.heap.size 36 [.int .i64 a7, .int .i64 ac, .int .u64 ai, .int .i64 al, .int .i64 am, .int .i64 aa, .slice a9 ab ad, .int .u64 ak] := bs
  have h := h ay (an.heap.size) bb (Priv.cons bm aj.lt Priv.nil)
  refine h.mono fun c6 c2 h => ?_
  obtain ⟨ah, he, hk, h⟩ := h
  refine ⟨ah, he, ?_⟩
  have a0 := hk.blk a0 (by simp)
  have aj := hk.blk aj (by simp)
  refine ⟨a1, a6, a8, ag, af, a5, a4, a3, a2, ae, ⟨a0.celli 0 rfl rfl, a0.celli 1 rfl rfl, a0.celli 2 rfl rfl, a0.celli 3 rfl rfl, a0.celli 4 rfl rfl, a0.celli 5 rfl rfl, a0.celli 6 rfl rfl, a0.celli 7 rfl rfl, trivial⟩, ?_⟩
  refine ⟨a7, ac, ai, al, am, aa, a9, ab, ad, ak, ⟨aj.celli 0 rfl rfl, aj.celli 1 rfl rfl, aj.celli 2 rfl rfl, aj.celli 3 rfl rfl, aj.celli 4 rfl rfl, aj.celli 5 rfl rfl, aj.celli 6 rfl rfl, aj.celli 7 rfl rfl, trivial⟩, ?_⟩
  refine h.mono fun bt bw h => ?_
  obtain ⟨ao, he, hk, h⟩ := h
  refine ⟨ao, he, ?_⟩
  have a0 := hk.blk a0 (by simp)
  refine bif_fo (fun ba => ?_) (fun ba => ?_)
  ·have h := h.2 (beq_f ba)
   exact h
  have h := h.1 (beq_t ba)
  refine bif_fo (fun bi => ?_) (fun bi => ?_)
  ·have h := h.2 (beq_f bi)
   exact h
  have h := h.1 (beq_t bi)
  refine bif_fo (fun b5 => ?_) (fun b5 => ?_)
  ·have h := h.2 (beq_f b5)
   exact h
  have h := h.1 (beq_t b5)
  refine h.mono fun bz bu h => ?_
  obtain ⟨bl, he, hk, h⟩ := h
  refine ⟨bl, he, ?_⟩
  have a0 := hk.blk a0 (by simp)
  refine bif_fo (fun bd => ?_) (fun bd => ?_)
  ·have h := h.2 bd
   exact h
  have h := h.1 bd
  refine ⟨a1, a6, a8, ag, af, a5, a4, a3, a2, ae, ⟨a0.celli 0 rfl rfl, a0.celli 1 rfl rfl, a0.celli 2 rfl rfl, a0.celli 3 rfl rfl, a0.celli 4 rfl rfl, a0.celli 5 rfl rfl, a0.celli 6 rfl rfl, a0.celli 7 rfl rfl, trivial⟩, ?_⟩
  refine ⟨a1, a6, a8, ag, af, a5, a4, a3, a2, ae, ⟨a0.celli 0 rfl rfl, a0.celli 1 rfl rfl, a0.celli 2 rfl rfl, a0.celli 3 rfl rfl, a0.celli 4 rfl rfl, a0.celli 5 rfl rfl, a0.celli 6 rfl rfl, a0.celli 7 rfl rfl, trivial⟩, ?_⟩
  refine h.mono fun bx c5 h => ?_
  obtain ⟨aq, he, h⟩ := h
  refine ⟨aq, he, ?_⟩
  exact h

theorem Q0d.go  {R : RW} {w : World} (h : Q0d.N  R w) : Calls Try.prog 4 #[] w fun e w' => ∃ v, e = .returned v ∧ R v w' := Q0d.ok  (Q0d.up  h)
theorem Q0d.run  {V : Value} {Q : World → Prop} {w : World} (h : Q0d.N  (fun v w' => v = V ∧ Q w') w) : Calls Try.prog 4 #[] w (Ret V Q) := (Q0d.go  h).mono fun e w' ⟨v, he, hv, hq⟩ => ⟨by rw [he, hv], hq⟩

def prfV (a : Ent) (aa : Option Addr) (ac : Nat) (b : Ent) (ba : Option Addr) (bc : Nat) : Value :=
  .agg #[.int .i64 a.w, .int .i64 a.i, .int .u64 a.pv, .int .i64 a.t, .int .i64 a.tw, .int .i64 a.ep, .slice aa a.body.length ac, .int .u64 a.sg, .int .i64 b.w, .int .i64 b.i, .int .u64 b.pv, .int .i64 b.t, .int .i64 b.tw, .int .i64 b.ep, .slice ba b.body.length bc, .int .u64 b.sg]
def checkP (hold : Ent → Bool) (a b : Ent) : Int :=
  if ¬ (Q0o a = true ∧ Q0o b = true) then 1 else if a.w ≠ b.w then 20 else if a.i ≠ b.i then 2 else if a = b then 8 else if ¬ (hold a = true ∧ hold b = true) then 6 else 0
section
variable {w w' : World} {o o' : Own} {k n : Nat} {K : Nat → Prop} {S : OS} {d : List Int} {a b : Ent} {aa ba : Option Addr} {ac bc : Nat}
theorem right_F : Q02.F a.w a.i a.pv a.t a.tw a.ep aa a.body.length ac a.sg b.w b.i b.pv b.t b.tw b.ep ba b.body.length bc b.sg = if Q0o a = true ∧ Q0o b = true then 0 else 1 := by
  unfold Q02.F
  rw [Q1G, Q1G]
  cases Q0o a <;> cases Q0o b <;> rfl
theorem Q3M (ha : RowAt w aa (bytesV a.body)) (hb : RowAt w ba (bytesV b.body)) :
    Calls Try.prog 26 #[prfV a aa ac b ba bc] w (Ret (.int .i64 (if a = b then 8 else 0)) fun w' => Ext no w w') := by
  refine Q0b.run a.w a.i a.pv a.t a.tw a.ep aa a.body.length ac a.sg b.w b.i b.pv b.t b.tw b.ep ba b.body.length bc b.sg ?_
  unfold Q0b.N
  intro w17 X17
  refine (Q3L (e := a) (f := b) (ha.no X17) (hb.no X17)).mono fun x w21 ⟨he, X21⟩ => ⟨_, he, fun h => ?_, fun h => ?_⟩
  · rw [if_pos (of_decide_eq_true h)]; exact ⟨rfl, X17.trans X21⟩
  · rw [if_neg (of_decide_eq_false h)]; exact ⟨rfl, X17.trans X21⟩
theorem Q1H (h : POrc w o k S) (ok : Tags w o) (p : Int) (hfa : Q0o a = true → a.fit) (hfb : Q0o b = true → b.fit) (ha : RowAt w aa (bytesV a.body)) (hb : RowAt w ba (bytesV b.body)) :
    Calls Try.prog 11 #[.pointer (some (blk k)), .int .u64 p, prfV a aa ac b ba bc] w (Ret (.int .i64 (checkP (holdsE S p) a b)) fun w' => Ext no w w') := by
  refine Q0n.run (some (blk k)) p a.w a.i a.pv a.t a.tw a.ep aa a.body.length ac a.sg b.w b.i b.pv b.t b.tw b.ep ba b.body.length bc b.sg ?_
  unfold Q0n.N
  rw [right_F]
  intro w19 p20 X19 hp
  refine ⟨fun q vs w1 => ∃ t : Nat, vs = [.int .i64 t] ∧ q + t = 4 ∧ Ext no w w1 ∧ (0 < t → Q0o a = true ∧ Q0o b = true) ∧ (1 < t → a.w = b.w) ∧ (2 < t → a.i = b.i) ∧ (3 < t → a ≠ b), 4, ⟨0, rfl, rfl, X19, fun h => absurd h (by decide), fun h => absurd h (by decide), fun h => absurd h (by decide), fun h => absurd h (by decide)⟩, ?_⟩
  rintro q w1 i ⟨t, hi, hq, X1, c0, c1, c2, c3⟩
  simp only [List.cons.injEq, Value.int.injEq, true_and, and_true] at hi
  subst hi
  refine ⟨fun ht => ⟨by omega, by omega, fun h0 => ?_, fun h0 => ?_, fun h0 => ?_, fun h0 => ?_⟩, fun ht => ?_⟩
  · obtain rfl : t = 0 := by omega
    by_cases hr : Q0o a = true ∧ Q0o b = true
    · rw [if_pos hr]
      exact ⟨fun h => absurd rfl h, fun _ => ⟨by decide, by decide, fun w26 X26 => ⟨q - 1, by omega, 1, rfl, by omega, X1.trans X26, fun _ => hr, fun h => absurd h (by decide), fun h => absurd h (by decide), fun h => absurd h (by decide)⟩⟩⟩
    · rw [if_neg hr]
      exact ⟨fun _ w26 X26 => ⟨by unfold checkP; rw [if_pos hr], X1.trans X26⟩, fun h => absurd h (by decide)⟩
  · obtain rfl : t = 1 := by omega
    unfold Q00.F
    by_cases hr : a.w = b.w
    · rw [if_pos hr]
      exact ⟨fun h => absurd rfl h, fun _ => ⟨by decide, by decide, fun w26 X26 => ⟨q - 1, by omega, 2, rfl, by omega, X1.trans X26, fun _ => c0 (by decide), fun _ => hr, fun h => absurd h (by decide), fun h => absurd h (by decide)⟩⟩⟩
    · rw [if_neg hr]
      exact ⟨fun _ w26 X26 => ⟨by unfold checkP; rw [if_neg (not_not_intro (c0 (by decide))), if_pos hr], X1.trans X26⟩, fun h => absurd h (by decide)⟩
  · obtain rfl : t = 2 := by omega
    unfold Q03.F
    by_cases hr : a.i = b.i
    · rw [if_pos hr]
      exact ⟨fun h => absurd rfl h, fun _ => ⟨by decide, by decide, fun w26 X26 => ⟨q - 1, by omega, 3, rfl, by omega, X1.trans X26, fun _ => c0 (by decide), fun _ => c1 (by decide), fun _ => hr, fun h => absurd h (by decide)⟩⟩⟩
    · rw [if_neg hr]
      exact ⟨fun _ w26 X26 => ⟨by unfold checkP; rw [if_neg (not_not_intro (c0 (by decide))), if_neg (not_not_intro (c1 (by decide))), if_pos hr], X1.trans X26⟩, fun h => absurd h (by decide)⟩
  · obtain rfl : t = 3 := by omega
    refine (Q3M (a := a) (b := b) (ha.no X1) (hb.no X1)).mono fun x w37 ⟨he, X37⟩ => ⟨_, he, X37.kept, fun h => ?_, fun h => ?_⟩
    · by_cases hr : a = b
      · rw [if_pos hr]
        exact ⟨by unfold checkP; rw [if_neg (not_not_intro (c0 (by decide))), if_neg (not_not_intro (c1 (by decide))), if_neg (not_not_intro (c2 (by decide))), if_pos hr], X1.trans X37⟩
      · rw [if_neg hr] at h; exact absurd rfl h
    · by_cases hr : a = b
      · rw [if_pos hr] at h; exact absurd h (by decide)
      · exact ⟨by decide, by decide, q - 1, by omega, 4, rfl, by omega, X1.trans X37, fun _ => c0 (by decide), fun _ => c1 (by decide), fun _ => c2 (by decide), fun _ => hr⟩
  · obtain rfl : t = 4 := by omega
    have s1 := Step.of_no X1 ok
    have hc : checkP (holdsE S p) a b = if ¬ (holdsE S p a = true ∧ holdsE S p b = true) then 6 else 0 := by
      unfold checkP
      rw [if_neg (not_not_intro (c0 (by decide))), if_neg (not_not_intro (c1 (by decide))), if_neg (not_not_intro (c2 (by decide))), if_neg (c3 (by decide))]
    rw [hc]
    refine (HoldsO (h.step s1 id) s1.ok p (e := a) hfa (ha.no X1)).mono fun x w29 ⟨he, X29⟩ => ⟨_, he, X29.kept, fun hh => ⟨by rw [if_pos (fun q => by rw [hh] at q; cases q.1)], X1.trans X29⟩, fun hh => ?_⟩
    have s2 := s1.trans (Step.of_no X29 s1.ok)
    refine (HoldsO (h.step s2 id) s2.ok p (e := b) hfb ((hb.no X1).no X29)).mono fun x w33 ⟨he, X33⟩ => ⟨_, he, fun hk => ⟨by rw [if_pos (fun q => by rw [hk] at q; cases q.2)], (X1.trans X29).trans X33⟩, fun hk => ⟨by rw [if_neg (not_not_intro ⟨hh, hk⟩)], (X1.trans X29).trans X33⟩⟩
end
open W (OwnB GivesW numR countR doneR zig unzig intR)
theorem inf38 : (Try.prog.info? 38).map (fun i => (i.zero, i.size, i.bytes)) = some (some (.agg #[.int .i64 0, .int .i64 0, .int .u64 0, .int .i64 0, .int .i64 0, .int .i64 0, .slice none 0 0, .int .u64 0, .int .i64 0, .int .i64 0, .int .u64 0, .int .i64 0, .int .i64 0, .int .i64 0, .slice none 0 0, .int .u64 0]), 16, 160) := by kernel_rfl
def i64V (n : Int) : Value := .int .i64 n
def PrfV (w : World) (o : Own) (p : Ent × Ent) (v : Value) : Prop :=
  ∃ aa ac ba bc, v = prfV p.1 aa ac p.2 ba bc ∧ Row w o aa (bytesV p.1.body) ∧ Row w o ba (bytesV p.2.body) ∧ p.1.body.length ≤ ac ∧ p.2.body.length ≤ bc
def PrfL (w : World) (o : Own) : List (Int × (Ent × Ent)) → List (Int × Value) → Prop
  | [], [] => True
  | p :: r, q :: s => p.1 = q.1 ∧ PrfV w o p.2 q.2 ∧ PrfL w o r s
  | _, _ => False
section
variable {w w' : World} {o o' : Own} {k j n : Nat} {K : Nat → Prop} {S : OS} {a b : Ent} {aa ba : Option Addr} {ac bc : Nat}
theorem PrfV.step {p : Ent × Ent} {v : Value} (h : PrfV w o p v) (s : Step K w o w' o') : PrfV w' o' p v := by
  obtain ⟨aa, ac, ba, bc, h1, h2, h3, h4⟩ := h
  exact ⟨aa, ac, ba, bc, h1, h2.step s, h3.step s, h4⟩
theorem PrfL.step (s : Step K w o w' o') : ∀ {l : List (Int × (Ent × Ent))} {lv : List (Int × Value)}, PrfL w o l lv → PrfL w' o' l lv
  | [], [], _ => trivial
  | p :: r, q :: t, h => ⟨h.1, h.2.1.step s, PrfL.step s h.2.2⟩
  | [], _ :: _, h => h.elim
  | _ :: _, [], h => h.elim
theorem PrfL.look : ∀ {l : List (Int × (Ent × Ent))} {lv : List (Int × Value)}, PrfL w o l lv → ∀ x, (alook l x = none ∧ mlook lv x = none) ∨ ∃ s v, alook l x = some s ∧ mlook lv x = some v ∧ PrfV w o s v
  | [], [], _, x => .inl ⟨rfl, rfl⟩
  | p :: r, q :: s, h, x => by
    obtain ⟨h1, h2, h3⟩ := h
    simp only [alook, mlook, ← h1]
    by_cases hp : p.1 = x
    · rw [if_pos hp, if_pos hp]; exact .inr ⟨_, _, rfl, rfl, h2⟩
    · rw [if_neg hp, if_neg hp]; exact PrfL.look h3 x
  | [], _ :: _, h, _ => h.elim
  | _ :: _, [], h, _ => h.elim
theorem PrfL.put {x : Int} {t : Ent × Ent} {v : Value} (hv : PrfV w o t v) : ∀ {l : List (Int × (Ent × Ent))} {lv : List (Int × Value)}, PrfL w o l lv → PrfL w o (aput l x t) (mput lv x v)
  | [], [], _ => ⟨rfl, hv, trivial⟩
  | p :: r, q :: s, h => by
    obtain ⟨h1, h2, h3⟩ := h
    simp only [aput, mput, ← h1]
    by_cases hp : p.1 = x
    · rw [if_pos hp, if_pos hp]; exact ⟨rfl, hv, h3⟩
    · rw [if_neg hp, if_neg hp]; exact ⟨h1, h2, PrfL.put hv h3⟩
  | [], _ :: _, h => h.elim
  | _ :: _, [], h => h.elim
theorem PrfL.len : ∀ {l : List (Int × (Ent × Ent))} {lv : List (Int × Value)}, PrfL w o l lv → l.length = lv.length
  | [], [], _ => rfl
  | p :: r, q :: s, h => by simp [PrfL.len h.2.2]
  | [], _ :: _, h => h.elim
  | _ :: _, [], h => h.elim
def Alm (w : World) (o : Own) (k : Nat) (l : List (Int × (Ent × Ent))) : Prop :=
  o k = some k ∧ ∃ q lv, Blk w k 69 [.map (some q)] ∧ MapIs w q i64V lv ∧ o q = some k ∧ q ≠ k ∧ PrfL w o l lv
theorem Alm.lt {l : List (Int × (Ent × Ent))} (h : Alm w o k l) : k < w.heap.size := by obtain ⟨_, q, lv, hb, _⟩ := h; exact hb.lt
theorem Alm.step {l : List (Int × (Ent × Ent))} (h : Alm w o k l) (s : Step K w o w' o') (hk : ¬ K k) : Alm w' o' k l := by
  have hlt := h.lt
  obtain ⟨h0, q, lv, h1, h2, h3, h4, h5⟩ := h
  refine ⟨(s.own hlt).trans h0, q, lv, s.blk h1 h0 hk, ?_, (s.own h2.lt).trans h3, h4, h5.step s⟩
  have hq := s.at h2.lt fun i hi => by rw [h3] at hi; cases hi; exact hk
  obtain ⟨es, cl, e1, e2⟩ := h2
  exact ⟨es, cl, hq.trans e1, e2⟩
theorem Q39 {a : Option Addr} {c : Nat} {bs : List UInt8} (h : RowAt w a (bytesV bs)) (hl : bs.length ≤ 1000000) :
    Calls Try.prog 34 #[.slice a bs.length c] w (fun e w' => ∃ a' c', e = .returned (.slice a' bs.length c') ∧ OwnB w.heap.size w' a' c' bs ∧ Ext no w w') := by
  refine (Q0a.go _ _ _ (R := fun v w' => ∃ a' c', v = (.slice a' bs.length c') ∧ OwnB w.heap.size w' a' c' bs ∧ Ext no w w') ?_).mono fun e w' ⟨v, he, a, c, hv, hw⟩ => ⟨a, c, by rw [he, hv], hw⟩
  unfold Q0a.N
  refine ⟨fun hn => ?_, fun hn w2 q X hb hq hq' => ?_⟩
  · subst hn
    have : bs = [] := by simpa [bytesV] using h.none_nil
    subst this
    exact ⟨none, 0, rfl, OwnB.nil _ _, Ext.refl _ _⟩
  · have hO : OwnB w.heap.size w2 (some (blk q)) 0 [] := ⟨Q13 hb rfl (Nat.zero_le _), fun ad ha => by cases ha; exact ⟨hq, hq'⟩⟩
    obtain ⟨a', c', w', hr, hO', hx⟩ := hO.append (t := 34) (ty := 34) Try.underlying34 X.size (xc := c) (h.no X) (by simp; omega)
    rw [List.nil_append] at hr hO'
    exact ⟨a', _, c', w', hr, a', c', rfl, hO', X.then hx fun b hb => .inr hb⟩
theorem Q0Y (ok : Tags w o) {e : Ent} {a : Option Addr} {c : Nat} (h : Row w o a (bytesV e.body)) (hl : e.body.length ≤ 1000000) :
    Calls Try.prog 22 #[entV e a c] w (fun x w' => ∃ o' a' c', x = .returned (entV e a' c') ∧ Step no w o w' o' ∧ Row w' o' a' (bytesV e.body) ∧ e.body.length ≤ c') := by
  refine (Q0p.go e.w e.i e.pv e.t e.tw e.ep a e.body.length c e.sg (R := fun v w' => ∃ o' a' c', v = (entV e a' c') ∧ Step no w o w' o' ∧ Row w' o' a' (bytesV e.body) ∧ e.body.length ≤ c') ?_).mono fun x w' ⟨v, he, o', a, c, hv, hw⟩ => ⟨o', a, c, by rw [he, hv], hw⟩
  unfold Q0p.N
  intro w10 p11 p12 X10 hp
  obtain ⟨s10, M10⟩ := Step.priv X10 hp ok
  have g11 := hp p11 (by simp)
  have g12 := hp p12 (by simp)
  refine (Q39 (h.step s10).1 hl).mono fun x w15 ⟨ca, cc, he, hO, X15⟩ => ⟨_, _, _, he, X15.kept, fun w24 X24 => ?_⟩
  have s15 := Step.of_no X15 s10.ok
  have s24 := Step.stores X24 s15.ok (M10.step s15) (by simp [or_comm])
  exact ⟨_, ca, cc, rfl, (s10.trans s15).trans' s24 (fun i hi => .inr (by simp at hi; omega)), (OwnB.tight hO (Nat.le_refl _)).step s24, hO.le⟩
theorem Q1y (ok : Tags w o) : Calls Try.prog 7 #[] w (fun x w' => ∃ k o', x = .returned (.pointer (some (blk k))) ∧ w.heap.size ≤ k ∧ Step no w o w' o' ∧ Alm w' o' k []) := by
  refine (Q0l.go (R := fun v w' => ∃ k o', v = (.pointer (some (blk k))) ∧ w.heap.size ≤ k ∧ Step no w o w' o' ∧ Alm w' o' k []) ?_).mono fun x w' ⟨v, he, k, o', hv, hw⟩ => ⟨k, o', by rw [he, hv], hw⟩
  unfold Q0l.N
  intro w1 q2 X1 hm hq hq' w3 q4 X3 hb h4 h4'
  have s1 := Step.of_no (X1.trans X3) ok
  have l3 := X3.size
  refine ⟨q4, tag (tag (grow w o) q2 q4) q4 q4, rfl, by omega, (s1.tag hq h4').tag (by omega) h4', Q0O, q2, [], hb, ?_, ?_, by omega, trivial⟩
  · have : MapIs w1 q2 i64V [] := ⟨#[], 0, hm, rfl, by simp, by simp⟩
    exact this.ext X3 id
  · rw [tag_ne (by omega)]; exact Q0O
theorem On_spec {l : List (Int × (Ent × Ent))} (h : Alm w o k l) : Calls Try.prog 16 #[.pointer (some (blk k))] w (Ret (.bool (decide (l ≠ []))) fun w' => w' = w) := by
  obtain ⟨h0, q, lv, h1, h2, h3, h4, h5⟩ := h
  refine Q0c.run _ ?_
  unfold Q0c.N
  refine ⟨fun _ => ⟨_, rfl, some q, h1.cella (i := 0) rfl, lv.length, h2.len Try.underlying67, ?_, rfl⟩, fun h => by cases h⟩
  congr 1
  rw [decide_eq_decide, ← h5.len]
  cases l <;> simp
def raiseP (S : OS) (p : Int) (l : List (Int × (Ent × Ent))) (a b : Ent) : Int × List (Int × (Ent × Ent)) :=
  if checkP (holdsE S p) a b = 0 then (0, match alook l a.w with | some _ => l | none => aput l a.w (a, b)) else (checkP (holdsE S p) a b, l)
theorem Q2t {l : List (Int × (Ent × Ent))} (A : Alm w o j l) (h : POrc w o k S) (ok : Tags w o) (hkj : k ≠ j) (p : Int) (hfa : Q0o a = true → a.fit) (hfb : Q0o b = true → b.fit) (ha : Row w o aa (bytesV a.body)) (hb : Row w o ba (bytesV b.body)) (la : a.body.length ≤ 1000000) (lb : b.body.length ≤ 1000000) :
    Calls Try.prog 10 #[.pointer (some (blk j)), .pointer (some (blk k)), .int .u64 p, prfV a aa ac b ba bc] w (Gs (fun i => i = j) w o (.int .i64 (raiseP S p l a b).1) fun w' o' => Alm w' o' j (raiseP S p l a b).2) := by
  refine (Q04.go (some (blk j)) (some (blk k)) p a.w a.i a.pv a.t a.tw a.ep aa a.body.length ac a.sg b.w b.i b.pv b.t b.tw b.ep ba b.body.length bc b.sg (R := fun v w' => ∃ o', v = (.int .i64 (raiseP S p l a b).1) ∧ Step (fun i => i = j) w o w' o' ∧ Alm w' o' j (raiseP S p l a b).2) ?_).mono fun x w' ⟨v, he, o', hv, hw⟩ => ⟨o', by rw [he, hv], hw⟩
  unfold Q04.N
  refine ⟨fun h => (by cases h), fun _ w20 p23 X20 hp => ?_⟩
  obtain ⟨s20, M20⟩ := Step.priv X20 hp ok
  have g23 := hp p23 (by simp)
  have hj := A.lt
  refine (Q1H (a := a) (b := b) (h.step s20 id) s20.ok p hfa hfb (ha.step s20).1 (hb.step s20).1).mono fun x w26 ⟨he, X26⟩ => ⟨_, he, X26.kept, fun hne => ?_, fun h0 => ?_⟩
  · have s26 := s20.trans (Step.of_no X26 s20.ok)
    unfold raiseP
    rw [if_neg hne]
    exact ⟨_, rfl, s26.none, A.step s26 id⟩
  · have s26 := s20.trans (Step.of_no X26 s20.ok)
    have A26 := A.step s26 id
    have M26 := M20.step (Step.of_no X26 s20.ok)
    obtain ⟨_, q, lv, h1, h2, h3, h4, h5⟩ := id A26
    refine ⟨_, rfl, some q, h1.cella (i := 0) rfl, fun w28 X28 => ?_⟩
    obtain ⟨i, hi, hz, hsz, hby⟩ := info_of inf38
    have hlk := fun (w1 : World) (hm : MapIs w1 q i64V lv) => hm.lookup (Q1z (k := .i64) Try.underlying3) Try.underlying67 hi hz a.w true
    have s28 := s26.trans (Step.of_no X28 s26.ok)
    have m28 := h2.ext X28 id
    have key : ∃ (x y : Ent) (xa : Option Addr) (xc : Nat) (ya : Option Addr) (yc : Nat), ((mlook lv a.w).getD (.agg #[.int .i64 0, .int .i64 0, .int .u64 0, .int .i64 0, .int .i64 0, .int .i64 0, .slice none 0 0, .int .u64 0, .int .i64 0, .int .i64 0, .int .u64 0, .int .i64 0, .int .i64 0, .int .i64 0, .slice none 0 0, .int .u64 0])) = prfV x xa xc y ya yc ∧ (mlook lv a.w).isSome = (alook l a.w).isSome := by
      rcases h5.look a.w with ⟨e1, e2⟩ | ⟨s, v, e1, e2, xa, xc, ya, yc, e3, _⟩
      · rw [e1, e2]; exact ⟨Ent.zero, Ent.zero, none, 0, none, 0, rfl, rfl⟩
      · rw [e1, e2]; exact ⟨s.1, s.2, xa, xc, ya, yc, e3, rfl⟩
    obtain ⟨x, y, xa, xc, ya, yc, key, kis⟩ := key
    have hl28 := hlk w28 m28
    rw [if_pos rfl, key, kis] at hl28
    refine ⟨x.w, x.i, x.pv, x.t, x.tw, x.ep, xa, x.body.length, xc, x.sg, y.w, y.i, y.pv, y.t, y.tw, y.ep, ya, y.body.length, yc, y.sg, (alook l a.w).isSome, hl28, fun w50 p51 X50 hp51 => ?_⟩
    have hl50 := hlk w50 (m28.ext X50 id)
    rw [if_pos rfl, key, kis] at hl50
    obtain ⟨s50', M50⟩ := Step.priv X50 hp51 s28.ok
    have s50 := s28.trans s50'
    have g51 := hp51 p51 (by simp)
    have A50 := A.step s50 id
    have l28 := X28.size
    have l26 := X26.size
    refine ⟨hl50, ((h1.ext X28 id).ext X50 id).cella (i := 0) rfl, fun hno w71 X71 => ?_, fun hyes w69 X69 => ?_⟩
    · have s71' := Step.stores X71 s50.ok M50 (by simp)
      have s71 := s50.trans' s71' fun i hi => .inr (by simp at hi; omega)
      have A71 := A50.step s71' (by simp; omega)
      have hno : alook l a.w = none := by cases hq : alook l a.w with | none => rfl | some z => rw [hq] at hno; cases hno
      obtain ⟨q0, q7, lv7, b1, b2, b3, b4, b5⟩ := id A71
      refine ⟨some q7, b1.cella (i := 0) rfl, ?_⟩
      have M71 : Mine [p23] w71 _ := ((M26.step (Step.of_no X28 s26.ok)).step s50').step s71'
      refine (Q0Y (e := a) s71.ok (ha.step s71) la).mono fun x w83 ⟨o83, ca, cc, he, s83', rc, lc⟩ => ⟨_, _, _, _, _, _, _, _, _, _, he, M71.keep s83' (fun _ _ => id), (s83'.blk b1 q0 id).cella (i := 0) rfl, ?_⟩
      have s83 := s71.trans s83'
      refine (Q0Y (e := b) s83.ok (hb.step s83) lb).mono fun x w94 ⟨o94, da, dc, he, s94', rd, ld⟩ => ⟨_, _, _, _, _, _, _, _, _, _, he, (M71.step s83').keep s94' (fun _ _ => id), (s94'.blk (s83'.blk b1 q0 id) ((s83'.own A71.lt).trans q0) id).cella (i := 0) rfl, ?_⟩
      have s94 := s83.trans s94'
      have A94 := (A71.step s83' id).step s94' id
      have s7194 := s83'.trans s94'
      have m94 : MapIs w94 q7 i64V lv7 := by
        have hq := s7194.at b2.lt fun i hi => id
        obtain ⟨es, cl, e1, e2⟩ := b2
        exact ⟨es, cl, hq.trans e1, e2⟩
      obtain ⟨w96, hu, hm, hx⟩ := m94.update (Q1z (k := .i64) Try.underlying3) Try.underlying67 a.w (prfV a ca cc b da dc)
      refine ⟨w96, hu, ?_⟩
      have X96 := hx (fun b => b = q7) rfl
      have tq : o94 q7 = some j := (s7194.own b2.lt).trans b3
      have s96' := Step.of_ext X96 s94.ok (p := j) fun b hb _ => by subst hb; exact tq
      have s96 := s94.none.trans s96'
      have hr : raiseP S p l a b = (0, aput l a.w (a, b)) := by unfold raiseP; rw [if_pos h0, hno]
      rw [hr]
      have lt94 := A94.lt
      refine ⟨_, rfl, s96, (s96'.own lt94).trans A94.1, q7, _, ((s94'.blk (s83'.blk b1 q0 id) ((s83'.own A71.lt).trans q0) id)).ext X96 (fun e => b4 e.symm), hm, (s96'.own (Nat.lt_of_lt_of_le b2.lt s7194.size)).trans tq, b4, ?_⟩
      exact PrfL.put ⟨ca, cc, da, dc, rfl, (rc.step s94').step s96', rd.step s96', lc, ld⟩ ((b5.step s7194).step s96')
    · have s69' := Step.stores X69 s50.ok M50 (by simp)
      have s69 := s50.trans' s69' fun i hi => .inr (by simp at hi; omega)
      have hr : raiseP S p l a b = (0, l) := by
        unfold raiseP; rw [if_pos h0]
        cases hq : alook l a.w with | some z => rfl | none => rw [hq] at hyes; cases hyes
      rw [hr]
      exact ⟨_, rfl, s69.none, A50.step s69' (by simp; omega)⟩
end
open W (OwnB GivesW numR countR doneR zig unzig intR)
def exA : Ent := ⟨0, 0, 0, 1, 0, 0, [120], 0⟩
def exB : Ent := ⟨0, 0, 0, 1, 0, 0, [121], 0⟩
theorem ex_fact : ∃ S1 S2 S3 : OS, ∃ x y : Ent, pairOf (OS.init []) = ((1, 2), S1) ∧ signE S1 1 exA = ((x, 0), S2) ∧ signE S2 1 exB = ((y, 0), S3) ∧ x.fit ∧ y.fit ∧ x.body.length = 1 ∧ y.body.length = 1 ∧ checkP (holdsE S3 2) x y = 0 ∧ checkP (holdsE S3 2) x x = 8 :=
  ⟨_, _, _, { exA with sg := 3 }, { exB with sg := 4 }, rfl, rfl, rfl, ⟨by decide, by decide, by decide, by decide⟩, ⟨by decide, by decide, by decide, by decide⟩, rfl, rfl, by decide, by decide⟩
theorem Q1c (w : World) : Calls Try.prog 4 #[] w (Ret (.bool true) fun w' => Ext no w w') := by
  refine Q0d.run ?_
  unfold Q0d.N
  obtain ⟨S1, S2, S3, x, y, f1, f2, f3, fx, fy, bx, by', f4, f5⟩ := ex_fact
  have ok0 : Tags w (fun _ => none) := fun b j _ h => by cases h
  refine (NewO (l := []) (c := 0) ok0 (RowAt.nil _ _) (by simp)).mono fun v w3 ⟨k, o3, hx, hk, s3, P3⟩ => ⟨_, hx, ?_⟩
  have i0 : OInv (OS.init []) := OInv.init (by simp)
  have nk : ∀ {w1 w2 : World} {o1 o2 : Own}, Step no w (fun _ => none) w1 o1 → Step (fun i => i = k) w1 o1 w2 o2 → Step no w (fun _ => none) w2 o2 := fun h1 h2 => h1.trans' h2 fun i hi => .inr (by omega)
  refine (PairO P3 s3.ok i0.ok (by decide)).mono fun v w7 ⟨o7, hx, s7', P7⟩ => ⟨_, _, hx, ?_⟩
  have i1 := (Q3v i0).1
  have u1 := (Q1Z i0.ok).2
  rw [f1] at P7 i1 u1 ⊢
  dsimp only at u1
  have s7 := nk s3 s7'
  intro w8 q9 X8 hb9 hq9 hq9'
  obtain ⟨w11, hc11, hr11, X11⟩ := litB Try.underlying34 Try.underlying5 [120] X8 hb9 hq9
  refine ⟨_, _, _, w11, hc11, ?_⟩
  have s11' := Step.of_no X11 s7.ok
  have s11 := s7.trans s11'
  have rA : Row w11 (grow w7 o7) (some (blk q9)) (bytesV exA.body) := Row.fresh hr11 fun ad ha => by cases ha; exact hq9
  refine (SignE (P7.step s11' id) s11.ok i1.ok (by have : (OS.init []).used.length = 0 := rfl; show S1.used.length < 1000000; omega) 1 (e := exA) (fun _ => ⟨by decide, by decide, by decide, by decide⟩) rA).mono fun v w22 ⟨o22, xa, xc, hx, s22', P22, rx, lx⟩ => ⟨_, _, _, _, _, _, _, _, _, _, _, hx, ?_⟩
  have i2 := Q2K i1 1 exA
  have u2 := (Q1X i1.ok 1 (textL exA)).2
  have e2 : (signE S1 1 exA).2.used.length ≤ S1.used.length + 1 := by
    unfold signE
    split
    · split <;> exact u2
    · exact Nat.le_succ _
  rw [f2] at P22 rx lx i2 e2 ⊢
  dsimp only at e2
  have s22 := nk s11 s22'
  intro w32 q33 p34 X32 hb33 hq33 hq33' hp34
  have g34 := hp34 p34 (by simp)
  obtain ⟨w36, hc36, hr36, X36⟩ := litB Try.underlying34 Try.underlying5 [121] X32 hb33 hq33
  have k36 : Keep [p34] w32 w36 := fun p hp hl => by
    rw [show p = p34 by simpa using hp] at hl ⊢
    have e := hc36.symm.trans (Q2U (P := Try.prog) (t := 34) Try.underlying34 Try.underlying5 (n := 1) (c := 1) hb33)
    injection e with _ e
    rw [e]
    exact ((Ext.refl (fun b => b = q33) w32).freeze (x := ⟨q33, _, none⟩) (.inl rfl) 1).block p34 hl (by omega)
  refine ⟨_, _, _, w36, hc36, k36, ?_⟩
  have s36' := Step.of_no X36 s22.ok
  have s36 := s22.trans s36'
  have l36 := X36.size
  have F36 : Free [p34] w36 (grow w22 o22) := fun p hp => by
    rw [show p = p34 by simpa using hp]
    refine ⟨?_, grow_ge g34.1⟩
    have hl := hr36.lt (by simp [bytesV]) rfl
    have : (blk q33).block = q33 := rfl
    omega
  have rB : Row w36 (grow w22 o22) (some (blk q33)) (bytesV exB.body) := Row.fresh hr36 fun ad ha => by cases ha; exact hq33
  refine (SignE (P22.step s36' id) s36.ok i2.ok (by have : (OS.init []).used.length = 0 := rfl; show S2.used.length < 1000000; omega) 1 (e := exB) (fun _ => ⟨by decide, by decide, by decide, by decide⟩) rB).mono fun v w47 ⟨o47, ya, yc, hx, s47', P47, ry, ly⟩ => ⟨_, _, _, _, _, _, _, _, _, _, _, hx, F36.keep s47', fun w56 p57 X56 hp57 => ?_⟩
  rw [f3] at P47 ry ly ⊢
  have s47 := nk s36 s47'
  have F47 := F36.step s47'
  have s56' := Step.of_no X56 s47.ok
  have s56 := s47.trans s56'
  have F56 : Free [p34, p57] w56 (grow w47 o47) := (F47.step s56').app (M := [p57]) (Free.of hp57)
  refine (Q1y s56.ok).mono fun v w60 ⟨j, o60, hx, hj, s60', A60⟩ => ⟨_, hx, F56.keep s60', ?_⟩
  have s60 := s56.trans s60'
  have F60 := (F56.step s60').sub (M := [p34]) (by simp)
  have P60 := (P47.step s56' id).step s60' id
  have rx60 := (((rx.step s36').step s47').step s56').step s60'
  have ry60 := (ry.step s56').step s60'
  have hkj : k ≠ j := by
    have := P47.lt
    have := X56.size
    omega
  refine (Q2t (a := x) (b := y) A60 P60 s60.ok hkj 2 (fun _ => fx) (fun _ => fy) rx60 ry60 (by omega) (by omega)).mono fun v w63 ⟨o63, hx, s63', A63⟩ => ⟨_, hx, F60.keep s63', fun _ => ⟨fun _ => ⟨fun hr => ?_, fun hr => ?_⟩, fun h => absurd rfl h⟩, fun h => absurd rfl h⟩
  · have hra : raiseP S3 2 [] x y = (0, aput [] x.w (x, y)) := by unfold raiseP; rw [if_pos f4]; rfl
    rw [hra] at A63
    have s63 := s60.trans' s63' fun i hi => .inr (by have := s56.size; omega)
    refine (On_spec A63).mono fun v w69 ⟨he, hw⟩ => ⟨_, he, by subst hw; exact Keep.refl _ _, fun _ => ?_, fun h => by simp [aput] at h⟩
    subst hw
    refine (Q1H (a := x) (b := x) (P60.step s63' hkj) s63.ok 2 (fun _ => fx) (fun _ => fx) (rx60.step s63').1 (rx60.step s63').1).mono fun v w73 ⟨he, X73⟩ => ⟨_, he, ?_, ?_⟩
    · rw [f5]; rfl
    · exact (s63.ext.mono fun b ⟨_, h, _⟩ _ => by cases h).trans X73
  · have hra : raiseP S3 2 [] x y = (0, aput [] x.w (x, y)) := by unfold raiseP; rw [if_pos f4]; rfl
    rw [hra] at hr
    exact absurd rfl hr
structure PE where
  e : Ent
  a : Option Addr
  c : Nat
def PE.C (x : PE) : List Value := entC x.e x.a x.c
def PE.Cs (l : List PE) : List Value := l.flatMap PE.C
theorem PE.len (x : PE) : x.C.length = 8 := rfl
theorem PE.Cs_length (l : List PE) : (PE.Cs l).length = l.length * 8 := by
  induction l with
  | nil => rfl
  | cons x r ih => simp only [PE.Cs, List.flatMap_cons, List.length_append, List.length_cons] at ih ⊢; rw [ih, PE.len]; omega
theorem PE.Cs_get : ∀ {l : List PE} {i : Nat} {x : PE}, l[i]? = some x → ∀ j, j < 8 → (PE.Cs l)[i * 8 + j]? = x.C[j]?
  | [], i, x, hi, j, hj => by simp at hi
  | a :: r, 0, x, hi, j, hj => by
    simp only [List.getElem?_cons_zero, Option.some.injEq] at hi
    subst hi
    simp only [PE.Cs, List.flatMap_cons, Nat.zero_mul, Nat.zero_add]
    rw [List.getElem?_append_left (by rw [PE.len]; omega)]
  | a :: r, i + 1, x, hi, j, hj => by
    simp only [List.getElem?_cons_succ] at hi
    have := PE.Cs_get hi j hj
    simp only [PE.Cs, List.flatMap_cons] at this ⊢
    rw [List.getElem?_append_right (by rw [PE.len]; omega), show (i + 1) * 8 + j - a.C.length = i * 8 + j by rw [PE.len]; omega]
    exact this
theorem PE.one (x : PE) : ∀ u ∈ x.C, u.oneCell' = true := fun u hu => by
  simp only [PE.C, entC, List.mem_cons, List.not_mem_nil, or_false] at hu
  rcases hu with rfl | rfl | rfl | rfl | rfl | rfl | rfl | rfl <;> rfl
theorem PE.cell {w : World} {la : Option Addr} {ad : Addr} {l : List PE} (hr : RowAt w la (PE.Cs l)) (ha : la = some ad) {i : Nat} {x : PE} (hi : l[i]? = some x) {j : Nat} {v : Value} (hv : x.C[j]? = some v) : w.cell? ((ad.add (i * 8)).add j) = some v := by
  subst ha
  have hj : j < 8 := by have := (List.getElem?_eq_some_iff.1 hv).1; exact this
  rw [add_add]
  exact hr.at_ ((PE.Cs_get hi j hj).trans hv)
open W (OwnB GivesW numR countR doneR zig unzig intR)
def Q0e.M (a5 : Option Addr) (a4 a7 : Nat) (R : RW) (w : World) : Prop :=
 ∃ (I0 : Nat → List Value → World → Prop) (m3 : Nat), I0 m3 [.int .i64 0] w ∧ ∀ (m4 : Nat) (a3 : World) (i2 : Int), I0 m4 [.int .i64 i2] a3 →
 bif decide (i2 < (a4 : Int)) then (
 a5.elim False fun a6 =>
 0 ≤ (i2 : Int) ∧ (i2 : Int) < (a4 : Int) ∧
 ∃ (a2 : Option Addr) (a0 a1 : Nat), a3.cell? ((a6.add (Int.toNat i2 * 8)).add 6) = some (.slice a2 a0 a1) ∧
 bif decide ((a0 : Int) > 1500) then (
 R (.bool false) a3) else (
 ∃ m8, m8 < m4 ∧ I0 m8 [.int .i64 (IntKind.i64.wrap (i2 + 1))] a3)) else (
 R (.bool true) a3)

theorem Q0e.ok (a0 : Option Addr) (a2 a1 : Nat) {R : RW} {w : World} (h : Q0e.M a0 a2 a1 R w) : Calls Try.prog 8 #[.slice a0 a2 a1] w fun e w' => ∃ v, e = .returned v ∧ R v w' :=
  Q0m follows (H := [(0, [0], [(3, (.one (.int .i64)))])]) (args := [.slice a0 a2 a1]) (cast (by kernel_rfl) h)

def Q0e.N (a5 : Option Addr) (a1 a8 : Nat) (R : RW) (w : World) : Prop :=
 ∃ (I0 : Nat → List Value → World → Prop) (m3 : Nat), I0 m3 [.int .i64 0] w ∧ ∀ (m4 : Nat) (a4 : World) (i2 : Int), I0 m4 [.int .i64 i2] a4 →
 (i2 < (a1 : Int) →
 ∃ a7 : Addr, a5 = some a7 ∧
 0 ≤ (i2 : Int) ∧ (i2 : Int) < (a1 : Int) ∧
 ∃ (a2 : Option Addr) (a0 a3 : Nat), a4.cell? ((a7.add (Int.toNat i2 * 8)).add 6) = some (.slice a2 a0 a3) ∧
 ((a0 : Int) > 1500 →
 R (.bool false) a4) ∧
 ((a0 : Int) ≤ 1500 →
 (-9223372036854775808 : Int) ≤ (i2 + 1) ∧ (i2 + 1) < 9223372036854775808 ∧
 ∃ a6, a6 < m4 ∧ I0 a6 [.int .i64 (i2 + 1)] a4)) ∧
 ((a1 : Int) ≤ i2 →
 R (.bool true) a4)

theorem Q0e.up (a3 : Option Addr) (a4 a5 : Nat) {R : RW} {w : World} (h : Q0e.N a3 a4 a5 R w) : Q0e.M a3 a4 a5 R w := by
  unfold Q0e.M
  unfold Q0e.N at h
  obtain ⟨I0, m3, h0, h⟩ := h
  refine ⟨I0, m3, h0, fun m4 a9 i2 hI => ?_⟩
  have h := h m4 a9 i2 hI
  refine bif_fo (fun c6 => ?_) (fun c6 => ?_)
  ·have h := h.2 (Int.not_lt.1 (of_decide_eq_false c6))
   exact h
  have h := h.1 (of_decide_eq_true c6)
  obtain ⟨a7, a8, h⟩ := h
  refine Q0F a8 ?_
  obtain ⟨af, ad, h⟩ := h
  refine ⟨af, ad, ?_⟩
  obtain ⟨a1, a0, a2, aa, h⟩ := h
  refine ⟨a1, a0, a2, aa, ?_⟩
  refine bif_of (fun a6 => ?_) (fun a6 => ?_)
  ·have h := h.1 (of_decide_eq_true a6)
   exact h
  have h := h.2 (Int.not_lt.1 (of_decide_eq_false a6))
  obtain ⟨ab, ac, h⟩ := h
  try rw [w64 ab ac]
  obtain ⟨ae, hk, h⟩ := h
  exact ⟨ae, hk, h⟩

theorem Q0e.go (a0 : Option Addr) (a2 a1 : Nat) {R : RW} {w : World} (h : Q0e.N a0 a2 a1 R w) : Calls Try.prog 8 #[.slice a0 a2 a1] w fun e w' => ∃ v, e = .returned v ∧ R v w' := Q0e.ok a0 a2 a1 (Q0e.up a0 a2 a1 h)
theorem Q0e.run (a0 : Option Addr) (a2 a1 : Nat) {V : Value} {Q : World → Prop} {w : World} (h : Q0e.N a0 a2 a1 (fun v w' => v = V ∧ Q w') w) : Calls Try.prog 8 #[.slice a0 a2 a1] w (Ret V Q) := (Q0e.go a0 a2 a1 h).mono fun e w' ⟨v, he, hv, hq⟩ => ⟨by rw [he, hv], hq⟩

theorem Q3J {w : World} {a : Option Addr} {c : Nat} {l : List PE} (h : RowAt w a (PE.Cs l)) (hl : l.length < 1000000) :
    Calls Try.prog 8 #[.slice a l.length c] w (Ret (.bool (l.all fun p => decide (p.e.body.length ≤ 1500))) fun w' => w' = w) := by
  refine Q0e.run _ _ _ ?_
  unfold Q0e.N
  refine ⟨fun q vs w1 => ∃ t : Nat, vs = [.int .i64 t] ∧ q + t = l.length ∧ w1 = w ∧ (l.take t).all (fun p => decide (p.e.body.length ≤ 1500)) = true, l.length, ⟨0, rfl, rfl, rfl, rfl⟩, ?_⟩
  rintro q w1 i ⟨t, hi, hq, rfl, hn⟩
  simp only [List.cons.injEq, Value.int.injEq, true_and, and_true] at hi
  subst hi
  refine ⟨fun ht => ?_, fun ht => ?_⟩
  · have htl : t < l.length := by omega
    have hg : l[t]? = some l[t] := List.getElem?_eq_getElem htl
    obtain ⟨ad, ha⟩ := h.addr (by intro e; have := PE.Cs_length l; rw [e] at this; simp at this; omega)
    refine ⟨ad, ha, by omega, by omega, l[t].a, l[t].e.body.length, l[t].c, by rw [Int.toNat_natCast]; exact PE.cell h ha hg (j := 6) rfl, fun hb => ⟨?_, rfl⟩, fun hb => ⟨by omega, by omega, q - 1, by omega, t + 1, rfl, by omega, rfl, ?_⟩⟩
    · congr 1
      rw [eq_comm, List.all_eq_false]
      exact ⟨l[t], List.getElem_mem htl, by simp; omega⟩
    · rw [List.take_add_one, hg, List.all_append, hn]
      simp; omega
  · obtain rfl : t = l.length := by omega
    rw [List.take_length] at hn
    rw [hn]
    exact ⟨rfl, rfl⟩
set_option maxRecDepth 100000
set_option maxHeartbeats 4000000
abbrev Q05.J1 (ca : Option Addr) (cc cd : Nat) (c1 : Int) (I0 : Nat → List Value → World → Prop) (j6 : Option Addr) (cb : Nat) (bb : Option Addr) (ba : Nat) (R : RW) (a9 : World) : Prop :=
 bb.elim False fun cf =>
 0 ≤ (c1 : Int) ∧ (c1 : Int) < (ba : Int) ∧
 ∃ (c8 : Int), a9.cell? (cf.add (Int.toNat c1 * 1)) = some (.int .i64 c8) ∧
 j6.elim False fun ce =>
 ∃ (c9 : Option Nat), a9.cell? (ce.add 0) = some (.map c9) ∧
 ∃ (a8 ai b3 be bi al : Int) (ad : Option Addr) (ao ak : Nat) (bg a6 aj b8 bc bf am : Int) (ar : Option Addr) (an ac : Nat) (bd : Int), (Instr.lookup 67 (.map c9) (.int .i64 c8) false).run Try.prog a9 = .ok (.agg #[.int .i64 a8, .int .i64 ai, .int .u64 b3, .int .i64 be, .int .i64 bi, .int .i64 al, .slice ad ao ak, .int .u64 bg, .int .i64 a6, .int .i64 aj, .int .u64 b8, .int .i64 bc, .int .i64 bf, .int .i64 am, .slice ar an ac, .int .u64 bd]) a9 ∧
 thenW (a9.alloc (.cells #[.int .i64 0, .int .i64 0, .int .u64 0, .int .i64 0, .int .i64 0, .int .i64 0, .slice none 0 0, .int .u64 0, .int .i64 0, .int .i64 0, .int .u64 0, .int .i64 0, .int .i64 0, .int .i64 0, .slice none 0 0, .int .u64 0] 38)) fun c3 =>
 putsK c3 (blk a9.heap.size) [.int .i64 a8, .int .i64 ai, .int .u64 b3, .int .i64 be, .int .i64 bi, .int .i64 al, .slice ad ao ak, .int .u64 bg, .int .i64 a6, .int .i64 aj, .int .u64 b8, .int .i64 bc, .int .i64 bf, .int .i64 am, .slice ar an ac, .int .u64 bd] 0 fun c4 =>
 thenW (c4.drew) fun bt =>
 ∃ (a7 ap az bl bh ah : Int) (ag : Option Addr) (ab ae : Nat) (bk : Int), cellsAt bt ((blk a9.heap.size).add 0) [.int .i64 a7, .int .i64 ap, .int .u64 az, .int .i64 bl, .int .i64 bh, .int .i64 ah, .slice ag ab ae, .int .u64 bk] 0 ∧
 ∃ (a0 a2 aa au av a5 : Int) (a3 : Option Addr) (a1 a4 : Nat) (aw : Int), cellsAt bt ((blk a9.heap.size).add 8) [.int .i64 a0, .int .i64 a2, .int .u64 aa, .int .i64 au, .int .i64 av, .int .i64 a5, .slice a3 a1 a4, .int .u64 aw] 0 ∧
 Calls Try.prog 22 #[.agg #[.int .i64 a7, .int .i64 ap, .int .u64 az, .int .i64 bl, .int .i64 bh, .int .i64 ah, .slice ag ab ae, .int .u64 bk]] bt fun c6 bx => ∃ (aq b2 bm bp bq ay : Int) (b7 : Option Addr) (b4 b5 : Nat) (br : Int), c6 = .returned (.agg #[.int .i64 aq, .int .i64 b2, .int .u64 bm, .int .i64 bp, .int .i64 bq, .int .i64 ay, .slice b7 b4 b5, .int .u64 br]) ∧
 cellsAt bx ((blk a9.heap.size).add 8) [.int .i64 a0, .int .i64 a2, .int .u64 aa, .int .i64 au, .int .i64 av, .int .i64 a5, .slice a3 a1 a4, .int .u64 aw] 0 ∧
 Calls Try.prog 22 #[.agg #[.int .i64 a0, .int .i64 a2, .int .u64 aa, .int .i64 au, .int .i64 av, .int .i64 a5, .slice a3 a1 a4, .int .u64 aw]] bx fun c5 bz => ∃ (af b1 bj bn bo b0 : Int) (b6 : Option Addr) (b9 ax : Nat) (bs : Int), c5 = .returned (.agg #[.int .i64 af, .int .i64 b1, .int .u64 bj, .int .i64 bn, .int .i64 bo, .int .i64 b0, .slice b6 b9 ax, .int .u64 bs]) ∧
 thenW (bz.alloc (.cells #[.int .i64 aq, .int .i64 b2, .int .u64 bm, .int .i64 bp, .int .i64 bq, .int .i64 ay, .slice b7 b4 b5, .int .u64 br, .int .i64 af, .int .i64 b1, .int .u64 bj, .int .i64 bn, .int .i64 bo, .int .i64 b0, .slice b6 b9 ax, .int .u64 bs] 38)) fun c2 =>
 ∃ (bu : Option Addr) (bv c0 : Nat) (bw : World), (Builtin.append_ #[47, 47] 47 #[.slice ca cc cd, .slice (some (blk bz.heap.size)) 1 1]).run Try.prog c2 = .ok (.slice bu bv c0) bw ∧
 ∃ c7, c7 < cb ∧ I0 c7 [.slice bu bv c0, .int .i64 (IntKind.i64.wrap (c1 + 1))] bw

abbrev Q05.J2 (j4 j5 : Nat) (j6 : Option Addr) (R : RW) (ag : World) : Prop :=
 j6.elim False fun a8 =>
 ∃ (m9 : Option Nat), ag.cell? (a8.add 0) = some (.map m9) ∧
 Calls Try.prog 29 #[.map m9] ag fun ad ac => ∃ (a5 : Nat) (a6 a7 : Array Value), ad = .returned (.func (.func a5) a6 a7) ∧
 Calls Try.prog 28 #[.func (.func a5) a6 a7] ac fun ae ab => ∃ (a1 : Option Addr) (a0 a9 : Nat), ae = .returned (.slice a1 a0 a9) ∧
 ∃ (I0 : Nat → List Value → World → Prop) (ai : Nat), I0 ai [.slice none j4 j5, .int .i64 0] ab ∧ ∀ (ah : Nat) (aa : World) (a3 : Option Addr) (a4 a2 : Nat) (af : Int), I0 ah [.slice a3 a4 a2, .int .i64 af] aa →
 bif decide (af < (a0 : Int)) then (
 Q05.J1 a3 a4 a2 af I0 j6 ah a1 a0 R aa) else (
 R (.slice a3 a4 a2) aa)

def Q05.M (a1 : Option Addr) (R : RW) (w : World) : Prop :=
 bif Option.isNone a1 then (
 R (.slice none 0 0) w) else (
 Q05.J2 0 0 a1 R w)

theorem Q05.ok (a1 : Option Addr) {R : RW} {w : World} (h : Q05.M a1 R w) : Calls Try.prog 12 #[.pointer a1] w fun e w' => ∃ v, e = .returned v ∧ R v w' :=
  Q0m follows (H := [(0, [0, 13, 14], [(2, (.one .slice)), (15, (.one (.int .i64)))])]) (args := [.pointer a1]) (cast (by kernel_rfl) h)

def Q05.N (a1 : Option Addr) (R : RW) (w : World) : Prop :=
 (a1 = none →
 R (.slice none 0 0) w) ∧
 (a1 ≠ none →
 ∃ a3 : Addr, a1 = some a3 ∧
 ∃ (m5 : Option Nat), w.cell? (a3.add 0) = some (.map m5) ∧
 Calls Try.prog 29 #[.map m5] w fun c3 c5 => ∃ (b2 : Nat) (ba b8 : Array Value), c3 = .returned (.func (.func b2) ba b8) ∧
 Calls Try.prog 28 #[.func (.func b2) ba b8] c5 fun bu bs => ∃ (af : Option Addr) (a0 b0 : Nat), bu = .returned (.slice af a0 b0) ∧
 ∃ (I0 : Nat → List Value → World → Prop) (c4 : Nat), I0 c4 [.slice none 0 0, .int .i64 0] bs ∧ ∀ (bw : Nat) (aj : World) (a5 : Option Addr) (a7 a6 : Nat) (bd : Int), I0 bw [.slice a5 a7 a6, .int .i64 bd] aj →
 (bd < (a0 : Int) →
 ∃ bz : Addr, af = some bz ∧
 0 ≤ (bd : Int) ∧ (bd : Int) < (a0 : Int) ∧
 ∃ (bx : Int), aj.cell? (bz.add (Int.toNat bd * 1)) = some (.int .i64 bx) ∧
 ∃ (c0 : Option Nat), aj.cell? (a3.add 0) = some (.map c0) ∧
 ∃ (a4 ab az b3 b7 a9 : Int) (ac : Option Addr) (al aa : Nat) (b1 a2 ad au b4 b6 ah : Int) (a8 : Option Addr) (ae ak : Nat) (bb : Int), (Instr.lookup 67 (.map c0) (.int .i64 bx) false).run Try.prog aj = .ok (.agg #[.int .i64 a4, .int .i64 ab, .int .u64 az, .int .i64 b3, .int .i64 b7, .int .i64 a9, .slice ac al aa, .int .u64 b1, .int .i64 a2, .int .i64 ad, .int .u64 au, .int .i64 b4, .int .i64 b6, .int .i64 ah, .slice a8 ae ak, .int .u64 bb]) aj ∧
 ∀ (bc : World) (c2 : Nat), Ext no aj bc → Priv aj bc [c2] →
 Calls Try.prog 22 #[.agg #[.int .i64 a4, .int .i64 ab, .int .u64 az, .int .i64 b3, .int .i64 b7, .int .i64 a9, .slice ac al aa, .int .u64 b1]] bc fun bt bq => ∃ (ag ar b5 bh bg ay : Int) (am : Option Addr) (aw ax : Nat) (bf : Int), bt = .returned (.agg #[.int .i64 ag, .int .i64 ar, .int .u64 b5, .int .i64 bh, .int .i64 bg, .int .i64 ay, .slice am aw ax, .int .u64 bf]) ∧
 Keep [c2] bc bq ∧
 Calls Try.prog 22 #[.agg #[.int .i64 a2, .int .i64 ad, .int .u64 au, .int .i64 b4, .int .i64 b6, .int .i64 ah, .slice a8 ae ak, .int .u64 bb]] bq fun bv bo => ∃ (ai aq b9 bk bi ap : Int) (ao : Option Addr) (an av : Nat) (bj : Int), bv = .returned (.agg #[.int .i64 ai, .int .i64 aq, .int .u64 b9, .int .i64 bk, .int .i64 bi, .int .i64 ap, .slice ao an av, .int .u64 bj]) ∧
 ∀ (be : World) (br : Nat), Ext no bo be → Blk be br 38 [.int .i64 ag, .int .i64 ar, .int .u64 b5, .int .i64 bh, .int .i64 bg, .int .i64 ay, .slice am aw ax, .int .u64 bf, .int .i64 ai, .int .i64 aq, .int .u64 b9, .int .i64 bk, .int .i64 bi, .int .i64 ap, .slice ao an av, .int .u64 bj] → bo.heap.size ≤ br → br < be.heap.size →
 ∃ (bp : Option Addr) (bl bm : Nat) (bn : World), (Builtin.append_ #[47, 47] 47 #[.slice a5 a7 a6, .slice (some (blk br)) 1 1]).run Try.prog be = .ok (.slice bp bl bm) bn ∧
 (-9223372036854775808 : Int) ≤ (bd + 1) ∧ (bd + 1) < 9223372036854775808 ∧
 ∃ c1, c1 < bw ∧ I0 c1 [.slice bp bl bm, .int .i64 (bd + 1)] bn) ∧
 ((a0 : Int) ≤ bd →
 R (.slice a5 a7 a6) aj))

theorem Q05.up (a1 : Option Addr) {R : RW} {w : World} (h : Q05.N a1 R w) : Q05.M a1 R w := by
  unfold Q05.M
  unfold Q05.N at h
  refine bif_of (fun c2 => ?_) (fun c2 => ?_)
  ·have h := h.1 (Q1j c2)
   exact h
  have h := h.2 (Q1i c2)
  first | unfold Q05.J2 | skip
  obtain ⟨a3, c4, h⟩ := h
  refine Q0F c4 ?_
  obtain ⟨m5, c9, h⟩ := h
  refine ⟨m5, c9, ?_⟩
  refine h.mono fun cp cr h => ?_
  obtain ⟨b8, bd, bb, he, h⟩ := h
  refine ⟨b8, bd, bb, he, ?_⟩
  refine h.mono fun cd c7 h => ?_
  obtain ⟨aq, an, ap, he, h⟩ := h
  refine ⟨aq, an, ap, he, ?_⟩
  obtain ⟨I0, cl, h0, h⟩ := h
  refine ⟨I0, cl, h0, fun ch ao b4 b0 av cn hI => ?_⟩
  have h := h ch ao b4 b0 av cn hI
  refine bif_fo (fun bq => ?_) (fun bq => ?_)
  ·have h := h.2 (Int.not_lt.1 (of_decide_eq_false bq))
   exact h
  have h := h.1 (of_decide_eq_true bq)
  first | unfold Q05.J1 | skip
  obtain ⟨cq, bu, h⟩ := h
  refine Q0F bu ?_
  obtain ⟨c6, ck, h⟩ := h
  refine ⟨c6, ck, ?_⟩
  obtain ⟨cm, bs, h⟩ := h
  refine ⟨cm, bs, ?_⟩
  refine Q0F c4 ?_
  obtain ⟨cc, br, h⟩ := h
  refine ⟨cc, br, ?_⟩
  obtain ⟨a4, a5, ag, al, ai, ab, a8, ae, a7, ah, a2, a9, af, aj, am, ac, ad, aa, a6, ak, bk, h⟩ := h
  refine ⟨a4, a5, ag, al, ai, ab, a8, ae, a7, ah, a2, a9, af, aj, am, ac, ad, aa, a6, ak, bk, ?_⟩
  refine Q01 fun cb c1 => ?_
  have a0 := Blk.of_new c1
  have c5 := ((Ext.refl no ao)).size
  have bw := (Ext.refl no ao).x_alloc c1
  refine Q0H (k := 0) (j := 0) a0 (by exact Nat.le_of_ble_eq_true rfl) fun bz ca cj => ?_
  have bv := bw.x_puts ca (.inr c5)
  have a0 : Blk bz ao.heap.size 38 [.int .i64 a4, .int .i64 a5, .int .u64 ag, .int .i64 al, .int .i64 ai, .int .i64 ab, .slice a8 ae a7, .int .u64 ah, .int .i64 a2, .int .i64 a9, .int .u64 af, .int .i64 aj, .int .i64 am, .int .i64 ac, .slice ad aa a6, .int .u64 ak] := cj
  refine Q01 fun bt c3 => ?_
  have bn := bv.x_drew c3
  have a0 := a0.x_drew c3
  refine ⟨a4, a5, ag, al, ai, ab, a8, ae, a7, ah, ⟨a0.celli 0 rfl rfl, a0.celli 1 rfl rfl, a0.celli 2 rfl rfl, a0.celli 3 rfl rfl, a0.celli 4 rfl rfl, a0.celli 5 rfl rfl, a0.celli 6 rfl rfl, a0.celli 7 rfl rfl, trivial⟩, ?_⟩
  refine ⟨a2, a9, af, aj, am, ac, ad, aa, a6, ak, ⟨a0.celli 8 rfl rfl, a0.celli 9 rfl rfl, a0.celli 10 rfl rfl, a0.celli 11 rfl rfl, a0.celli 12 rfl rfl, a0.celli 13 rfl rfl, a0.celli 14 rfl rfl, a0.celli 15 rfl rfl, trivial⟩, ?_⟩
  have h := h bt (ao.heap.size) bn (Priv.cons c5 a0.lt Priv.nil)
  refine h.mono fun c8 cf h => ?_
  obtain ⟨ar, b3, b9, bh, bf, b7, b1, b6, az, be, he, hk, h⟩ := h
  refine ⟨ar, b3, b9, bh, bf, b7, b1, b6, az, be, he, ?_⟩
  have a0 := hk.blk a0 (by simp)
  refine ⟨⟨a0.celli 8 rfl rfl, a0.celli 9 rfl rfl, a0.celli 10 rfl rfl, a0.celli 11 rfl rfl, a0.celli 12 rfl rfl, a0.celli 13 rfl rfl, a0.celli 14 rfl rfl, a0.celli 15 rfl rfl, trivial⟩, ?_⟩
  refine h.mono fun ce ba h => ?_
  obtain ⟨au, ax, bc, bj, bg, aw, b5, b2, ay, bi, he, h⟩ := h
  refine ⟨au, ax, bc, bj, bg, aw, b5, b2, ay, bi, he, ?_⟩
  refine Q01 fun c0 bo => ?_
  have h := h c0 ba.heap.size ((Ext.refl no ba).x_alloc bo) (Blk.of_new bo) ((Ext.refl no ba)).size (Q0C bo)
  obtain ⟨bx, bp, bl, bm, hr, h⟩ := h
  refine ⟨bx, bp, bl, bm, hr, ?_⟩
  obtain ⟨co, ci, h⟩ := h
  try rw [w64 co ci]
  obtain ⟨cg, hk, h⟩ := h
  exact ⟨cg, hk, h⟩

theorem Q05.go (a1 : Option Addr) {R : RW} {w : World} (h : Q05.N a1 R w) : Calls Try.prog 12 #[.pointer a1] w fun e w' => ∃ v, e = .returned v ∧ R v w' := Q05.ok a1 (Q05.up a1 h)
theorem Q05.run (a1 : Option Addr) {V : Value} {Q : World → Prop} {w : World} (h : Q05.N a1 (fun v w' => v = V ∧ Q w') w) : Calls Try.prog 12 #[.pointer a1] w (Ret V Q) := (Q05.go a1 h).mono fun e w' ⟨v, he, hv, hq⟩ => ⟨by rw [he, hv], hq⟩

abbrev Q09.J1 (ce : Addr) (co : Option Addr) (cm : Int) (R : RW) (c5 : World) : Prop :=
 co.elim False fun cn =>
 ∃ (ck : Option Nat), c5.cell? (cn.add 0) = some (.map ck) ∧
 ∃ (au ba bg c3 bz b9 : Int) (ax : Option Addr) (ay b4 : Nat) (c2 ar b3 bn bw bt b1 : Int) (b0 : Option Addr) (bb b6 : Nat) (bv : Int) (cl : Bool), (Instr.lookup 67 (.map ck) (.int .i64 cm) true).run Try.prog c5 = .ok (.tuple #[.agg #[.int .i64 au, .int .i64 ba, .int .u64 bg, .int .i64 c3, .int .i64 bz, .int .i64 b9, .slice ax ay b4, .int .u64 c2, .int .i64 ar, .int .i64 b3, .int .u64 bn, .int .i64 bw, .int .i64 bt, .int .i64 b1, .slice b0 bb b6, .int .u64 bv], .bool cl]) c5 ∧
 putsK c5 ce [.int .i64 au, .int .i64 ba, .int .u64 bg, .int .i64 c3, .int .i64 bz, .int .i64 b9, .slice ax ay b4, .int .u64 c2, .int .i64 ar, .int .i64 b3, .int .u64 bn, .int .i64 bw, .int .i64 bt, .int .i64 b1, .slice b0 bb b6, .int .u64 bv] 0 fun cj =>
 thenW (cj.drew) fun cd =>
 ∃ (aq bc bo c1 c0 b5 : Int) (aw : Option Addr) (b7 az : Nat) (bu : Int), cellsAt cd (ce.add 0) [.int .i64 aq, .int .i64 bc, .int .u64 bo, .int .i64 c1, .int .i64 c0, .int .i64 b5, .slice aw b7 az, .int .u64 bu] 0 ∧
 ∃ (ac ap av be bf an : Int) (aj : Option Addr) (ak al : Nat) (bd : Int), cellsAt cd (ce.add 8) [.int .i64 ac, .int .i64 ap, .int .u64 av, .int .i64 be, .int .i64 bf, .int .i64 an, .slice aj ak al, .int .u64 bd] 0 ∧
 Calls Try.prog 22 #[.agg #[.int .i64 aq, .int .i64 bc, .int .u64 bo, .int .i64 c1, .int .i64 c0, .int .i64 b5, .slice aw b7 az, .int .u64 bu]] cd fun cg cf => ∃ (b8 bm bx ca cb bj : Int) (br : Option Addr) (bk bp : Nat) (c7 : Int), cg = .returned (.agg #[.int .i64 b8, .int .i64 bm, .int .u64 bx, .int .i64 ca, .int .i64 cb, .int .i64 bj, .slice br bk bp, .int .u64 c7]) ∧
 cellsAt cf (ce.add 8) [.int .i64 ac, .int .i64 ap, .int .u64 av, .int .i64 be, .int .i64 bf, .int .i64 an, .slice aj ak al, .int .u64 bd] 0 ∧
 Calls Try.prog 22 #[.agg #[.int .i64 ac, .int .i64 ap, .int .u64 av, .int .i64 be, .int .i64 bf, .int .i64 an, .slice aj ak al, .int .u64 bd]] cf fun ci ch => ∃ (b2 bs c4 c9 c8 bq : Int) (bi : Option Addr) (bl bh : Nat) (c6 : Int), ci = .returned (.agg #[.int .i64 b2, .int .i64 bs, .int .u64 c4, .int .i64 c9, .int .i64 c8, .int .i64 bq, .slice bi bl bh, .int .u64 c6]) ∧
 putsK ch ce [.int .i64 b8, .int .i64 bm, .int .u64 bx, .int .i64 ca, .int .i64 cb, .int .i64 bj, .slice br bk bp, .int .u64 c7, .int .i64 b2, .int .i64 bs, .int .u64 c4, .int .i64 c9, .int .i64 c8, .int .i64 bq, .slice bi bl bh, .int .u64 c6] 0 fun cc =>
 ∃ (a1 a7 ad ao ag a8 : Int) (a2 : Option Addr) (ab a9 : Nat) (am a0 aa ae ah af a5 : Int) (a6 : Option Addr) (a3 a4 : Nat) (ai : Int), cellsAt cc ce [.int .i64 a1, .int .i64 a7, .int .u64 ad, .int .i64 ao, .int .i64 ag, .int .i64 a8, .slice a2 ab a9, .int .u64 am, .int .i64 a0, .int .i64 aa, .int .u64 ae, .int .i64 ah, .int .i64 af, .int .i64 a5, .slice a6 a3 a4, .int .u64 ai] 0 ∧
 R (.tuple #[.agg #[.int .i64 a1, .int .i64 a7, .int .u64 ad, .int .i64 ao, .int .i64 ag, .int .i64 a8, .slice a2 ab a9, .int .u64 am, .int .i64 a0, .int .i64 aa, .int .u64 ae, .int .i64 ah, .int .i64 af, .int .i64 a5, .slice a6 a3 a4, .int .u64 ai], .bool cl]) cc

def Q09.M (a1 : Option Addr) (b9 : Int) (R : RW) (w : World) : Prop :=
 thenW (w.alloc (.cells #[.int .i64 0, .int .i64 0, .int .u64 0, .int .i64 0, .int .i64 0, .int .i64 0, .slice none 0 0, .int .u64 0, .int .i64 0, .int .i64 0, .int .u64 0, .int .i64 0, .int .i64 0, .int .i64 0, .slice none 0 0, .int .u64 0] 38)) fun b8 =>
 bif Option.isNone a1 then (
 ∃ (ak ax b3 b6 b5 az : Int) (ar : Option Addr) (aq al : Nat) (b0 ad av ay b2 b1 an : Int) (aw : Option Addr) (ag am : Nat) (b4 : Int), cellsAt b8 (blk w.heap.size) [.int .i64 ak, .int .i64 ax, .int .u64 b3, .int .i64 b6, .int .i64 b5, .int .i64 az, .slice ar aq al, .int .u64 b0, .int .i64 ad, .int .i64 av, .int .u64 ay, .int .i64 b2, .int .i64 b1, .int .i64 an, .slice aw ag am, .int .u64 b4] 0 ∧
 putsK b8 (blk w.heap.size) [.int .i64 ak, .int .i64 ax, .int .u64 b3, .int .i64 b6, .int .i64 b5, .int .i64 az, .slice ar aq al, .int .u64 b0, .int .i64 ad, .int .i64 av, .int .u64 ay, .int .i64 b2, .int .i64 b1, .int .i64 an, .slice aw ag am, .int .u64 b4] 0 fun b7 =>
 ∃ (a2 a5 ae au aj a6 : Int) (a3 : Option Addr) (a8 a4 : Nat) (ah a0 ac af ai ap aa : Int) (a7 : Option Addr) (ab a9 : Nat) (ao : Int), cellsAt b7 (blk w.heap.size) [.int .i64 a2, .int .i64 a5, .int .u64 ae, .int .i64 au, .int .i64 aj, .int .i64 a6, .slice a3 a8 a4, .int .u64 ah, .int .i64 a0, .int .i64 ac, .int .u64 af, .int .i64 ai, .int .i64 ap, .int .i64 aa, .slice a7 ab a9, .int .u64 ao] 0 ∧
 R (.tuple #[.agg #[.int .i64 a2, .int .i64 a5, .int .u64 ae, .int .i64 au, .int .i64 aj, .int .i64 a6, .slice a3 a8 a4, .int .u64 ah, .int .i64 a0, .int .i64 ac, .int .u64 af, .int .i64 ai, .int .i64 ap, .int .i64 aa, .slice a7 ab a9, .int .u64 ao], .bool false]) b7) else (
 Q09.J1 (blk w.heap.size) a1 b9 R b8)

theorem Q09.ok (a1 : Option Addr) (a0 : Int) {R : RW} {w : World} (h : Q09.M a1 a0 R w) : Calls Try.prog 13 #[.pointer a1, .int .i64 a0] w fun e w' => ∃ v, e = .returned v ∧ R v w' :=
  Q0m follows (H := []) (args := [.pointer a1, .int .i64 a0]) (cast (by kernel_rfl) h)

def Q09.N (a1 : Option Addr) (bi : Int) (R : RW) (w : World) : Prop :=
 (a1 = none →
 ∀ (bg : World), Ext no w bg →
 R (.tuple #[.agg #[.int .i64 0, .int .i64 0, .int .u64 0, .int .i64 0, .int .i64 0, .int .i64 0, .slice none 0 0, .int .u64 0, .int .i64 0, .int .i64 0, .int .u64 0, .int .i64 0, .int .i64 0, .int .i64 0, .slice none 0 0, .int .u64 0], .bool false]) bg) ∧
 (a1 ≠ none →
 ∃ a7 : Addr, a1 = some a7 ∧
 ∃ (m9 : Option Nat), w.cell? (a7.add 0) = some (.map m9) ∧
 ∀ (bc : World) (ba : Nat), Ext no w bc → Priv w bc [ba] →
 ∃ (a0 ac ag az ay a4 : Int) (a9 : Option Addr) (a8 a3 : Nat) (b1 a2 ad ap aw b0 ab : Int) (ae : Option Addr) (af a6 : Nat) (au : Int) (bh : Bool), (Instr.lookup 67 (.map m9) (.int .i64 bi) true).run Try.prog bc = .ok (.tuple #[.agg #[.int .i64 a0, .int .i64 ac, .int .u64 ag, .int .i64 az, .int .i64 ay, .int .i64 a4, .slice a9 a8 a3, .int .u64 b1, .int .i64 a2, .int .i64 ad, .int .u64 ap, .int .i64 aw, .int .i64 b0, .int .i64 ab, .slice ae af a6, .int .u64 au], .bool bh]) bc ∧
 ∀ (b8 : World), Ext (fun b => b = ba) bc b8 →
 Calls Try.prog 22 #[.agg #[.int .i64 a0, .int .i64 ac, .int .u64 ag, .int .i64 az, .int .i64 ay, .int .i64 a4, .slice a9 a8 a3, .int .u64 b1]] b8 fun be b9 => ∃ (a5 an ax b4 b2 aq : Int) (aj : Option Addr) (ao am : Nat) (b5 : Int), be = .returned (.agg #[.int .i64 a5, .int .i64 an, .int .u64 ax, .int .i64 b4, .int .i64 b2, .int .i64 aq, .slice aj ao am, .int .u64 b5]) ∧
 Keep [ba] b8 b9 ∧
 Calls Try.prog 22 #[.agg #[.int .i64 a2, .int .i64 ad, .int .u64 ap, .int .i64 aw, .int .i64 b0, .int .i64 ab, .slice ae af a6, .int .u64 au]] b9 fun bf bb => ∃ (aa ak av b6 b7 ar : Int) (al : Option Addr) (ah ai : Nat) (b3 : Int), bf = .returned (.agg #[.int .i64 aa, .int .i64 ak, .int .u64 av, .int .i64 b6, .int .i64 b7, .int .i64 ar, .slice al ah ai, .int .u64 b3]) ∧
 Keep [ba] b9 bb ∧
 ∀ (bd : World), Ext (fun b => b = ba) bb bd →
 R (.tuple #[.agg #[.int .i64 a5, .int .i64 an, .int .u64 ax, .int .i64 b4, .int .i64 b2, .int .i64 aq, .slice aj ao am, .int .u64 b5, .int .i64 aa, .int .i64 ak, .int .u64 av, .int .i64 b6, .int .i64 b7, .int .i64 ar, .slice al ah ai, .int .u64 b3], .bool bh]) bd)

theorem Q09.up (a1 : Option Addr) (bp : Int) {R : RW} {w : World} (h : Q09.N a1 bp R w) : Q09.M a1 bp R w := by
  unfold Q09.M
  unfold Q09.N at h
  refine Q01 fun bc e3 => ?_
  have a0 := Blk.of_new e3
  have bo := ((Ext.refl no w)).size
  have bh := (Ext.refl no w).x_alloc e3
  refine bif_of (fun c4 => ?_) (fun c4 => ?_)
  ·have h := h.1 (Q1j c4)
   refine ⟨0, 0, 0, 0, 0, 0, none, 0, 0, 0, 0, 0, 0, 0, 0, 0, none, 0, 0, 0, ⟨a0.celli 0 rfl rfl, a0.celli 1 rfl rfl, a0.celli 2 rfl rfl, a0.celli 3 rfl rfl, a0.celli 4 rfl rfl, a0.celli 5 rfl rfl, a0.celli 6 rfl rfl, a0.celli 7 rfl rfl, a0.celli 8 rfl rfl, a0.celli 9 rfl rfl, a0.celli 10 rfl rfl, a0.celli 11 rfl rfl, a0.celli 12 rfl rfl, a0.celli 13 rfl rfl, a0.celli 14 rfl rfl, a0.celli 15 rfl rfl, trivial⟩, ?_⟩
   refine Q0H (k := 0) (j := 0) a0 (by exact Nat.le_of_ble_eq_true rfl) fun bn X5 b5 => ?_
   have bv := bh.x_puts X5 (.inr bo)
   have a0 : Blk bn w.heap.size 38 [.int .i64 0, .int .i64 0, .int .u64 0, .int .i64 0, .int .i64 0, .int .i64 0, .slice none 0 0, .int .u64 0, .int .i64 0, .int .i64 0, .int .u64 0, .int .i64 0, .int .i64 0, .int .i64 0, .slice none 0 0, .int .u64 0] := b5
   refine ⟨0, 0, 0, 0, 0, 0, none, 0, 0, 0, 0, 0, 0, 0, 0, 0, none, 0, 0, 0, ⟨a0.celli 0 rfl rfl, a0.celli 1 rfl rfl, a0.celli 2 rfl rfl, a0.celli 3 rfl rfl, a0.celli 4 rfl rfl, a0.celli 5 rfl rfl, a0.celli 6 rfl rfl, a0.celli 7 rfl rfl, a0.celli 8 rfl rfl, a0.celli 9 rfl rfl, a0.celli 10 rfl rfl, a0.celli 11 rfl rfl, a0.celli 12 rfl rfl, a0.celli 13 rfl rfl, a0.celli 14 rfl rfl, a0.celli 15 rfl rfl, trivial⟩, ?_⟩
   have h := h bn bv
   exact h
  have h := h.2 (Q1i c4)
  first | unfold Q09.J1 | skip
  obtain ⟨a7, bq, h⟩ := h
  refine Q0F bq ?_
  obtain ⟨m9, bs, h⟩ := h
  refine ⟨m9, (bh).cell bs id, ?_⟩
  have h := h bc (w.heap.size) bh (Priv.cons bo a0.lt Priv.nil)
  obtain ⟨a2, ad, ai, b1, b0, a5, aa, a9, a4, az, a3, ae, ar, ax, b2, ac, af, ag, a8, av, bt, bk, h⟩ := h
  refine ⟨a2, ad, ai, b1, b0, a5, aa, a9, a4, az, a3, ae, ar, ax, b2, ac, af, ag, a8, av, bt, bk, ?_⟩
  have bi : Ext (fun b => b = w.heap.size) bc bc := ((Ext.refl no bc)).none
  refine Q0H (k := 0) (j := 0) a0 (by exact Nat.le_of_ble_eq_true rfl) fun bf bw bz => ?_
  have bg := bi.x_puts bw (.inl rfl)
  have a0 : Blk bf w.heap.size 38 [.int .i64 a2, .int .i64 ad, .int .u64 ai, .int .i64 b1, .int .i64 b0, .int .i64 a5, .slice aa a9 a4, .int .u64 az, .int .i64 a3, .int .i64 ae, .int .u64 ar, .int .i64 ax, .int .i64 b2, .int .i64 ac, .slice af ag a8, .int .u64 av] := bz
  refine Q01 fun bd bm => ?_
  have bl := bg.x_drew bm
  have a0 := a0.x_drew bm
  refine ⟨a2, ad, ai, b1, b0, a5, aa, a9, a4, az, ⟨a0.celli 0 rfl rfl, a0.celli 1 rfl rfl, a0.celli 2 rfl rfl, a0.celli 3 rfl rfl, a0.celli 4 rfl rfl, a0.celli 5 rfl rfl, a0.celli 6 rfl rfl, a0.celli 7 rfl rfl, trivial⟩, ?_⟩
  refine ⟨a3, ae, ar, ax, b2, ac, af, ag, a8, av, ⟨a0.celli 8 rfl rfl, a0.celli 9 rfl rfl, a0.celli 10 rfl rfl, a0.celli 11 rfl rfl, a0.celli 12 rfl rfl, a0.celli 13 rfl rfl, a0.celli 14 rfl rfl, a0.celli 15 rfl rfl, trivial⟩, ?_⟩
  have h := h bd bl
  refine h.mono fun br bu h => ?_
  obtain ⟨a6, ap, ay, b4, b3, au, al, aq, ao, b6, he, hk, h⟩ := h
  refine ⟨a6, ap, ay, b4, b3, au, al, aq, ao, b6, he, ?_⟩
  have a0 := hk.blk a0 (by simp)
  refine ⟨⟨a0.celli 8 rfl rfl, a0.celli 9 rfl rfl, a0.celli 10 rfl rfl, a0.celli 11 rfl rfl, a0.celli 12 rfl rfl, a0.celli 13 rfl rfl, a0.celli 14 rfl rfl, a0.celli 15 rfl rfl, trivial⟩, ?_⟩
  refine h.mono fun bx ba h => ?_
  obtain ⟨ab, am, aw, b7, b8, ah, an, aj, ak, b9, he, hk, h⟩ := h
  refine ⟨ab, am, aw, b7, b8, ah, an, aj, ak, b9, he, ?_⟩
  have a0 := hk.blk a0 (by simp)
  have bj : Ext (fun b => b = w.heap.size) ba ba := ((Ext.refl no ba)).none
  refine Q0H (k := 0) (j := 0) a0 (by exact Nat.le_of_ble_eq_true rfl) fun bb c0 c1 => ?_
  have be := bj.x_puts c0 (.inl rfl)
  have a0 : Blk bb w.heap.size 38 [.int .i64 a6, .int .i64 ap, .int .u64 ay, .int .i64 b4, .int .i64 b3, .int .i64 au, .slice al aq ao, .int .u64 b6, .int .i64 ab, .int .i64 am, .int .u64 aw, .int .i64 b7, .int .i64 b8, .int .i64 ah, .slice an aj ak, .int .u64 b9] := c1
  refine ⟨a6, ap, ay, b4, b3, au, al, aq, ao, b6, ab, am, aw, b7, b8, ah, an, aj, ak, b9, ⟨a0.celli 0 rfl rfl, a0.celli 1 rfl rfl, a0.celli 2 rfl rfl, a0.celli 3 rfl rfl, a0.celli 4 rfl rfl, a0.celli 5 rfl rfl, a0.celli 6 rfl rfl, a0.celli 7 rfl rfl, a0.celli 8 rfl rfl, a0.celli 9 rfl rfl, a0.celli 10 rfl rfl, a0.celli 11 rfl rfl, a0.celli 12 rfl rfl, a0.celli 13 rfl rfl, a0.celli 14 rfl rfl, a0.celli 15 rfl rfl, trivial⟩, ?_⟩
  have h := h bb be
  exact h

theorem Q09.go (a1 : Option Addr) (a0 : Int) {R : RW} {w : World} (h : Q09.N a1 a0 R w) : Calls Try.prog 13 #[.pointer a1, .int .i64 a0] w fun e w' => ∃ v, e = .returned v ∧ R v w' := Q09.ok a1 a0 (Q09.up a1 a0 h)
theorem Q09.run (a1 : Option Addr) (a0 : Int) {V : Value} {Q : World → Prop} {w : World} (h : Q09.N a1 a0 (fun v w' => v = V ∧ Q w') w) : Calls Try.prog 13 #[.pointer a1, .int .i64 a0] w (Ret V Q) := (Q09.go a1 a0 h).mono fun e w' ⟨v, he, hv, hq⟩ => ⟨by rw [he, hv], hq⟩

def Q0g.M (b1 bj c3 cb cf bv : Int) (bx : Option Addr) (bd bp : Nat) (ce aw b3 bw c7 ca b2 : Int) (ax : Option Addr) (ba bb : Nat) (c0 ap b5 bf c4 c8 b6 : Int) (b4 : Option Addr) (b7 b0 : Nat) (c1 ao b8 br c5 c9 bc : Int) (az : Option Addr) (ay b9 : Nat) (c6 : Int) (R : RW) (w : World) : Prop :=
 thenW (w.alloc (.cells #[.int .i64 b1, .int .i64 bj, .int .u64 c3, .int .i64 cb, .int .i64 cf, .int .i64 bv, .slice bx bd bp, .int .u64 ce, .int .i64 aw, .int .i64 b3, .int .u64 bw, .int .i64 c7, .int .i64 ca, .int .i64 b2, .slice ax ba bb, .int .u64 c0] 52)) fun cc =>
 thenW (cc.alloc (.cells #[.int .i64 ap, .int .i64 b5, .int .u64 bf, .int .i64 c4, .int .i64 c8, .int .i64 b6, .slice b4 b7 b0, .int .u64 c1, .int .i64 ao, .int .i64 b8, .int .u64 br, .int .i64 c5, .int .i64 c9, .int .i64 bc, .slice az ay b9, .int .u64 c6] 52)) fun cd =>
 ∃ (a1 ab aq bs bl aj : Int) (a6 : Option Addr) (ac a8 : Nat) (be : Int), cellsAt cd ((blk w.heap.size).add 0) [.int .i64 a1, .int .i64 ab, .int .u64 aq, .int .i64 bs, .int .i64 bl, .int .i64 aj, .slice a6 ac a8, .int .u64 be] 0 ∧
 ∃ (a0 ai au bm bh a7 : Int) (ae : Option Addr) (am a9 : Nat) (bu : Int), cellsAt cd ((blk cc.heap.size).add 0) [.int .i64 a0, .int .i64 ai, .int .u64 au, .int .i64 bm, .int .i64 bh, .int .i64 a7, .slice ae am a9, .int .u64 bu] 0 ∧
 Calls Try.prog 30 #[.agg #[.int .i64 a1, .int .i64 ab, .int .u64 aq, .int .i64 bs, .int .i64 bl, .int .i64 aj, .slice a6 ac a8, .int .u64 be], .agg #[.int .i64 a0, .int .i64 ai, .int .u64 au, .int .i64 bm, .int .i64 bh, .int .i64 a7, .slice ae am a9, .int .u64 bu]] cd fun cg c2 => ∃ (bi : Bool), cg = .returned (.bool bi) ∧
 bif bi then (
 ∃ (a3 ag av bo bz ad : Int) (ah : Option Addr) (an a4 : Nat) (bq : Int), cellsAt c2 ((blk w.heap.size).add 8) [.int .i64 a3, .int .i64 ag, .int .u64 av, .int .i64 bo, .int .i64 bz, .int .i64 ad, .slice ah an a4, .int .u64 bq] 0 ∧
 ∃ (a2 aa ar bn bg af : Int) (al : Option Addr) (ak a5 : Nat) (bk : Int), cellsAt c2 ((blk cc.heap.size).add 8) [.int .i64 a2, .int .i64 aa, .int .u64 ar, .int .i64 bn, .int .i64 bg, .int .i64 af, .slice al ak a5, .int .u64 bk] 0 ∧
 Calls Try.prog 30 #[.agg #[.int .i64 a3, .int .i64 ag, .int .u64 av, .int .i64 bo, .int .i64 bz, .int .i64 ad, .slice ah an a4, .int .u64 bq], .agg #[.int .i64 a2, .int .i64 aa, .int .u64 ar, .int .i64 bn, .int .i64 bg, .int .i64 af, .slice al ak a5, .int .u64 bk]] c2 fun ci ch => ∃ (bt : Bool), ci = .returned (.bool bt) ∧
 R (.bool bt) ch) else (
 R (.bool false) c2)

theorem Q0g.ok (aa aj b2 b3 b5 am : Int) (ao : Option Addr) (al ak : Nat) (b4 a7 a3 an az b1 ad : Int) (ab : Option Addr) (ac ag : Nat) (au a0 ae aq ar b0 af : Int) (a5 : Option Addr) (a4 a9 : Nat) (ax a1 a6 ap av ay ah : Int) (a2 : Option Addr) (ai a8 : Nat) (aw : Int) {R : RW} {w : World} (h : Q0g.M aa aj b2 b3 b5 am ao al ak b4 a7 a3 an az b1 ad ab ac ag au a0 ae aq ar b0 af a5 a4 a9 ax a1 a6 ap av ay ah a2 ai a8 aw R w) : Calls Try.prog 14 #[.agg #[.int .i64 aa, .int .i64 aj, .int .u64 b2, .int .i64 b3, .int .i64 b5, .int .i64 am, .slice ao al ak, .int .u64 b4, .int .i64 a7, .int .i64 a3, .int .u64 an, .int .i64 az, .int .i64 b1, .int .i64 ad, .slice ab ac ag, .int .u64 au], .agg #[.int .i64 a0, .int .i64 ae, .int .u64 aq, .int .i64 ar, .int .i64 b0, .int .i64 af, .slice a5 a4 a9, .int .u64 ax, .int .i64 a1, .int .i64 a6, .int .u64 ap, .int .i64 av, .int .i64 ay, .int .i64 ah, .slice a2 ai a8, .int .u64 aw]] w fun e w' => ∃ v, e = .returned v ∧ R v w' :=
  Q0m follows (H := []) (args := [.agg #[.int .i64 aa, .int .i64 aj, .int .u64 b2, .int .i64 b3, .int .i64 b5, .int .i64 am, .slice ao al ak, .int .u64 b4, .int .i64 a7, .int .i64 a3, .int .u64 an, .int .i64 az, .int .i64 b1, .int .i64 ad, .slice ab ac ag, .int .u64 au], .agg #[.int .i64 a0, .int .i64 ae, .int .u64 aq, .int .i64 ar, .int .i64 b0, .int .i64 af, .slice a5 a4 a9, .int .u64 ax, .int .i64 a1, .int .i64 a6, .int .u64 ap, .int .i64 av, .int .i64 ay, .int .i64 ah, .slice a2 ai a8, .int .u64 aw]]) (cast (by kernel_rfl) h)

def Q0g.N (ab ak b5 b7 b9 ao : Int) (aq : Option Addr) (am al : Nat) (b8 a8 a4 ap b2 b4 ae : Int) (ac : Option Addr) (ad ah : Nat) (aw a0 af au av b3 ag : Int) (a6 : Option Addr) (a5 aa : Nat) (az a1 a7 ar ax b0 ai : Int) (a3 : Option Addr) (aj a9 : Nat) (ay : Int) (R : RW) (w : World) : Prop :=
 ∀ (b1 : World) (be bd : Nat), Ext no w b1 → Priv w b1 [be, bd] →
 Calls Try.prog 30 #[.agg #[.int .i64 ab, .int .i64 ak, .int .u64 b5, .int .i64 b7, .int .i64 b9, .int .i64 ao, .slice aq am al, .int .u64 b8], .agg #[.int .i64 a0, .int .i64 af, .int .u64 au, .int .i64 av, .int .i64 b3, .int .i64 ag, .slice a6 a5 aa, .int .u64 az]] b1 fun bc b6 => ∃ (a2 : Bool), bc = .returned (.bool a2) ∧
 Keep [be, bd] b1 b6 ∧
 (a2 = true →
 Calls Try.prog 30 #[.agg #[.int .i64 a8, .int .i64 a4, .int .u64 ap, .int .i64 b2, .int .i64 b4, .int .i64 ae, .slice ac ad ah, .int .u64 aw], .agg #[.int .i64 a1, .int .i64 a7, .int .u64 ar, .int .i64 ax, .int .i64 b0, .int .i64 ai, .slice a3 aj a9, .int .u64 ay]] b6 fun ba bb => ∃ (an : Bool), ba = .returned (.bool an) ∧
 R (.bool an) bb) ∧
 (a2 = false →
 R (.bool false) b6)

theorem Q0g.up (aa aj b4 b5 b7 am : Int) (ao : Option Addr) (al ak : Nat) (b6 a7 a3 an b1 b3 ad : Int) (ab : Option Addr) (ac ah : Nat) (av a0 af aq au b2 ag : Int) (a5 : Option Addr) (a4 a9 : Nat) (ay a1 a6 ap aw az ae : Int) (a2 : Option Addr) (ai a8 : Nat) (ax : Int) {R : RW} {w : World} (h : Q0g.N aa aj b4 b5 b7 am ao al ak b6 a7 a3 an b1 b3 ad ab ac ah av a0 af aq au b2 ag a5 a4 a9 ay a1 a6 ap aw az ae a2 ai a8 ax R w) : Q0g.M aa aj b4 b5 b7 am ao al ak b6 a7 a3 an b1 b3 ad ab ac ah av a0 af aq au b2 ag a5 a4 a9 ay a1 a6 ap aw az ae a2 ai a8 ax R w := by
  unfold Q0g.M
  unfold Q0g.N at h
  refine Q01 fun be bh => ?_
  have ar := Blk.of_new bh
  have bm := ((Ext.refl no w)).size
  have ba := (Ext.refl no w).x_alloc bh
  refine Q01 fun bb bd => ?_
  have b0 := Blk.of_new bd
  have bj := (ba).size
  have bg := Nat.ne_of_lt ar.lt
  have ar := ar.x_alloc bd
  have bf := ba.x_alloc bd
  refine ⟨aa, aj, b4, b5, b7, am, ao, al, ak, b6, ⟨ar.celli 0 rfl rfl, ar.celli 1 rfl rfl, ar.celli 2 rfl rfl, ar.celli 3 rfl rfl, ar.celli 4 rfl rfl, ar.celli 5 rfl rfl, ar.celli 6 rfl rfl, ar.celli 7 rfl rfl, trivial⟩, ?_⟩
  refine ⟨a0, af, aq, au, b2, ag, a5, a4, a9, ay, ⟨b0.celli 0 rfl rfl, b0.celli 1 rfl rfl, b0.celli 2 rfl rfl, b0.celli 3 rfl rfl, b0.celli 4 rfl rfl, b0.celli 5 rfl rfl, b0.celli 6 rfl rfl, b0.celli 7 rfl rfl, trivial⟩, ?_⟩
  have h := h bb (w.heap.size) (be.heap.size) bf (Priv.cons bm ar.lt (Priv.cons bj b0.lt Priv.nil))
  refine h.mono fun bn bk h => ?_
  obtain ⟨b9, he, hk, h⟩ := h
  refine ⟨b9, he, ?_⟩
  have ar := hk.blk ar (by simp)
  have b0 := hk.blk b0 (by simp)
  refine bif_fo (fun bc => ?_) (fun bc => ?_)
  ·have h := h.2 bc
   exact h
  have h := h.1 bc
  refine ⟨a7, a3, an, b1, b3, ad, ab, ac, ah, av, ⟨ar.celli 8 rfl rfl, ar.celli 9 rfl rfl, ar.celli 10 rfl rfl, ar.celli 11 rfl rfl, ar.celli 12 rfl rfl, ar.celli 13 rfl rfl, ar.celli 14 rfl rfl, ar.celli 15 rfl rfl, trivial⟩, ?_⟩
  refine ⟨a1, a6, ap, aw, az, ae, a2, ai, a8, ax, ⟨b0.celli 8 rfl rfl, b0.celli 9 rfl rfl, b0.celli 10 rfl rfl, b0.celli 11 rfl rfl, b0.celli 12 rfl rfl, b0.celli 13 rfl rfl, b0.celli 14 rfl rfl, b0.celli 15 rfl rfl, trivial⟩, ?_⟩
  refine h.mono fun bi bl h => ?_
  obtain ⟨b8, he, h⟩ := h
  refine ⟨b8, he, ?_⟩
  exact h

theorem Q0g.go (aa aj b2 b3 b5 am : Int) (ao : Option Addr) (al ak : Nat) (b4 a7 a3 an az b1 ad : Int) (ab : Option Addr) (ac ag : Nat) (au a0 ae aq ar b0 af : Int) (a5 : Option Addr) (a4 a9 : Nat) (ax a1 a6 ap av ay ah : Int) (a2 : Option Addr) (ai a8 : Nat) (aw : Int) {R : RW} {w : World} (h : Q0g.N aa aj b2 b3 b5 am ao al ak b4 a7 a3 an az b1 ad ab ac ag au a0 ae aq ar b0 af a5 a4 a9 ax a1 a6 ap av ay ah a2 ai a8 aw R w) : Calls Try.prog 14 #[.agg #[.int .i64 aa, .int .i64 aj, .int .u64 b2, .int .i64 b3, .int .i64 b5, .int .i64 am, .slice ao al ak, .int .u64 b4, .int .i64 a7, .int .i64 a3, .int .u64 an, .int .i64 az, .int .i64 b1, .int .i64 ad, .slice ab ac ag, .int .u64 au], .agg #[.int .i64 a0, .int .i64 ae, .int .u64 aq, .int .i64 ar, .int .i64 b0, .int .i64 af, .slice a5 a4 a9, .int .u64 ax, .int .i64 a1, .int .i64 a6, .int .u64 ap, .int .i64 av, .int .i64 ay, .int .i64 ah, .slice a2 ai a8, .int .u64 aw]] w fun e w' => ∃ v, e = .returned v ∧ R v w' := Q0g.ok aa aj b2 b3 b5 am ao al ak b4 a7 a3 an az b1 ad ab ac ag au a0 ae aq ar b0 af a5 a4 a9 ax a1 a6 ap av ay ah a2 ai a8 aw (Q0g.up aa aj b2 b3 b5 am ao al ak b4 a7 a3 an az b1 ad ab ac ag au a0 ae aq ar b0 af a5 a4 a9 ax a1 a6 ap av ay ah a2 ai a8 aw h)
theorem Q0g.run (aa aj b2 b3 b5 am : Int) (ao : Option Addr) (al ak : Nat) (b4 a7 a3 an az b1 ad : Int) (ab : Option Addr) (ac ag : Nat) (au a0 ae aq ar b0 af : Int) (a5 : Option Addr) (a4 a9 : Nat) (ax a1 a6 ap av ay ah : Int) (a2 : Option Addr) (ai a8 : Nat) (aw : Int) {V : Value} {Q : World → Prop} {w : World} (h : Q0g.N aa aj b2 b3 b5 am ao al ak b4 a7 a3 an az b1 ad ab ac ag au a0 ae aq ar b0 af a5 a4 a9 ax a1 a6 ap av ay ah a2 ai a8 aw (fun v w' => v = V ∧ Q w') w) : Calls Try.prog 14 #[.agg #[.int .i64 aa, .int .i64 aj, .int .u64 b2, .int .i64 b3, .int .i64 b5, .int .i64 am, .slice ao al ak, .int .u64 b4, .int .i64 a7, .int .i64 a3, .int .u64 an, .int .i64 az, .int .i64 b1, .int .i64 ad, .slice ab ac ag, .int .u64 au], .agg #[.int .i64 a0, .int .i64 ae, .int .u64 aq, .int .i64 ar, .int .i64 b0, .int .i64 af, .slice a5 a4 a9, .int .u64 ax, .int .i64 a1, .int .i64 a6, .int .u64 ap, .int .i64 av, .int .i64 ay, .int .i64 ah, .slice a2 ai a8, .int .u64 aw]] w (Ret V Q) := (Q0g.go aa aj b2 b3 b5 am ao al ak b4 a7 a3 an az b1 ad ab ac ag au a0 ae aq ar b0 af a5 a4 a9 ax a1 a6 ap av ay ah a2 ai a8 aw h).mono fun e w' ⟨v, he, hv, hq⟩ => ⟨by rw [he, hv], hq⟩

def Q0f.M (b5 ba bj bp bo be : Int) (bh : Option Addr) (b9 bg : Nat) (br b4 b6 b8 bk bm b2 : Int) (b1 : Option Addr) (b0 b3 : Nat) (bl : Int) (R : RW) (w : World) : Prop :=
 thenW (w.alloc (.cells #[.int .i64 b5, .int .i64 ba, .int .u64 bj, .int .i64 bp, .int .i64 bo, .int .i64 be, .slice bh b9 bg, .int .u64 br, .int .i64 b4, .int .i64 b6, .int .u64 b8, .int .i64 bk, .int .i64 bm, .int .i64 b2, .slice b1 b0 b3, .int .u64 bl] 38)) fun bn =>
 thenW (bn.alloc (.cells #[.int .i64 0, .int .i64 0, .int .u64 0, .int .i64 0, .int .i64 0, .int .i64 0, .slice none 0 0, .int .u64 0, .int .i64 0, .int .i64 0, .int .u64 0, .int .i64 0, .int .i64 0, .int .i64 0, .slice none 0 0, .int .u64 0] 52)) fun bq =>
 ∃ (al aw ay bb bi aq : Int) (ao : Option Addr) (av ax : Nat) (bf : Int), cellsAt bq ((blk w.heap.size).add 0) [.int .i64 al, .int .i64 aw, .int .u64 ay, .int .i64 bb, .int .i64 bi, .int .i64 aq, .slice ao av ax, .int .u64 bf] 0 ∧
 ∃ (aj am az bc b7 ar : Int) (au : Option Addr) (an ap : Nat) (bd : Int), cellsAt bq ((blk w.heap.size).add 8) [.int .i64 aj, .int .i64 am, .int .u64 az, .int .i64 bc, .int .i64 b7, .int .i64 ar, .slice au an ap, .int .u64 bd] 0 ∧
 putsK bq (blk bn.heap.size) [.int .i64 al, .int .i64 aw, .int .u64 ay, .int .i64 bb, .int .i64 bi, .int .i64 aq, .slice ao av ax, .int .u64 bf, .int .i64 aj, .int .i64 am, .int .u64 az, .int .i64 bc, .int .i64 b7, .int .i64 ar, .slice au an ap, .int .u64 bd] 0 fun bs =>
 ∃ (a0 a8 ad ah af a9 : Int) (a6 : Option Addr) (a4 ab : Nat) (ai a1 a5 ac ae ag a7 : Int) (aa : Option Addr) (a2 a3 : Nat) (ak : Int), cellsAt bs (blk bn.heap.size) [.int .i64 a0, .int .i64 a8, .int .u64 ad, .int .i64 ah, .int .i64 af, .int .i64 a9, .slice a6 a4 ab, .int .u64 ai, .int .i64 a1, .int .i64 a5, .int .u64 ac, .int .i64 ae, .int .i64 ag, .int .i64 a7, .slice aa a2 a3, .int .u64 ak] 0 ∧
 R (.agg #[.int .i64 a0, .int .i64 a8, .int .u64 ad, .int .i64 ah, .int .i64 af, .int .i64 a9, .slice a6 a4 ab, .int .u64 ai, .int .i64 a1, .int .i64 a5, .int .u64 ac, .int .i64 ae, .int .i64 ag, .int .i64 a7, .slice aa a2 a3, .int .u64 ak]) bs

theorem Q0f.ok (a5 a9 ad ai ah aa : Int) (ac : Option Addr) (a8 ab : Nat) (aj a4 a6 a7 ae ag a2 : Int) (a1 : Option Addr) (a0 a3 : Nat) (af : Int) {R : RW} {w : World} (h : Q0f.M a5 a9 ad ai ah aa ac a8 ab aj a4 a6 a7 ae ag a2 a1 a0 a3 af R w) : Calls Try.prog 15 #[.agg #[.int .i64 a5, .int .i64 a9, .int .u64 ad, .int .i64 ai, .int .i64 ah, .int .i64 aa, .slice ac a8 ab, .int .u64 aj, .int .i64 a4, .int .i64 a6, .int .u64 a7, .int .i64 ae, .int .i64 ag, .int .i64 a2, .slice a1 a0 a3, .int .u64 af]] w fun e w' => ∃ v, e = .returned v ∧ R v w' :=
  Q0m follows (H := []) (args := [.agg #[.int .i64 a5, .int .i64 a9, .int .u64 ad, .int .i64 ai, .int .i64 ah, .int .i64 aa, .slice ac a8 ab, .int .u64 aj, .int .i64 a4, .int .i64 a6, .int .u64 a7, .int .i64 ae, .int .i64 ag, .int .i64 a2, .slice a1 a0 a3, .int .u64 af]]) (cast (by kernel_rfl) h)

def Q0f.N (a5 a9 ad ai ah aa : Int) (ac : Option Addr) (a8 ab : Nat) (aj a4 a6 a7 ae ag a2 : Int) (a1 : Option Addr) (a0 a3 : Nat) (af : Int) (R : RW) (w : World) : Prop :=
 ∀ (ak : World), Ext no w ak →
 R (.agg #[.int .i64 a5, .int .i64 a9, .int .u64 ad, .int .i64 ai, .int .i64 ah, .int .i64 aa, .slice ac a8 ab, .int .u64 aj, .int .i64 a4, .int .i64 a6, .int .u64 a7, .int .i64 ae, .int .i64 ag, .int .i64 a2, .slice a1 a0 a3, .int .u64 af]) ak

theorem Q0f.up (a5 a9 ad ai ah aa : Int) (ac : Option Addr) (a8 ab : Nat) (aj a4 a6 a7 ae ag a2 : Int) (a1 : Option Addr) (a0 a3 : Nat) (af : Int) {R : RW} {w : World} (h : Q0f.N a5 a9 ad ai ah aa ac a8 ab aj a4 a6 a7 ae ag a2 a1 a0 a3 af R w) : Q0f.M a5 a9 ad ai ah aa ac a8 ab aj a4 a6 a7 ae ag a2 a1 a0 a3 af R w := by
  unfold Q0f.M
  unfold Q0f.N at h
  refine Q01 fun ar av => ?_
  have ak := Blk.of_new av
  have b0 := ((Ext.refl no w)).size
  have am := (Ext.refl no w).x_alloc av
  refine Q01 fun ay ap => ?_
  have al := Blk.of_new ap
  have ax := (am).size
  have au := Nat.ne_of_lt ak.lt
  have ak := ak.x_alloc ap
  have ao := am.x_alloc ap
  refine ⟨a5, a9, ad, ai, ah, aa, ac, a8, ab, aj, ⟨ak.celli 0 rfl rfl, ak.celli 1 rfl rfl, ak.celli 2 rfl rfl, ak.celli 3 rfl rfl, ak.celli 4 rfl rfl, ak.celli 5 rfl rfl, ak.celli 6 rfl rfl, ak.celli 7 rfl rfl, trivial⟩, ?_⟩
  refine ⟨a4, a6, a7, ae, ag, a2, a1, a0, a3, af, ⟨ak.celli 8 rfl rfl, ak.celli 9 rfl rfl, ak.celli 10 rfl rfl, ak.celli 11 rfl rfl, ak.celli 12 rfl rfl, ak.celli 13 rfl rfl, ak.celli 14 rfl rfl, ak.celli 15 rfl rfl, trivial⟩, ?_⟩
  refine Q0H (k := 0) (j := 0) al (by exact Nat.le_of_ble_eq_true rfl) fun an aw az => ?_
  have aq := ao.x_puts aw (.inr ax)
  have al : Blk an ar.heap.size 52 [.int .i64 a5, .int .i64 a9, .int .u64 ad, .int .i64 ai, .int .i64 ah, .int .i64 aa, .slice ac a8 ab, .int .u64 aj, .int .i64 a4, .int .i64 a6, .int .u64 a7, .int .i64 ae, .int .i64 ag, .int .i64 a2, .slice a1 a0 a3, .int .u64 af] := az
  refine ⟨a5, a9, ad, ai, ah, aa, ac, a8, ab, aj, a4, a6, a7, ae, ag, a2, a1, a0, a3, af, ⟨al.celli 0 rfl rfl, al.celli 1 rfl rfl, al.celli 2 rfl rfl, al.celli 3 rfl rfl, al.celli 4 rfl rfl, al.celli 5 rfl rfl, al.celli 6 rfl rfl, al.celli 7 rfl rfl, al.celli 8 rfl rfl, al.celli 9 rfl rfl, al.celli 10 rfl rfl, al.celli 11 rfl rfl, al.celli 12 rfl rfl, al.celli 13 rfl rfl, al.celli 14 rfl rfl, al.celli 15 rfl rfl, trivial⟩, ?_⟩
  have h := h an aq
  exact h

theorem Q0f.go (a5 a9 ad ai ah aa : Int) (ac : Option Addr) (a8 ab : Nat) (aj a4 a6 a7 ae ag a2 : Int) (a1 : Option Addr) (a0 a3 : Nat) (af : Int) {R : RW} {w : World} (h : Q0f.N a5 a9 ad ai ah aa ac a8 ab aj a4 a6 a7 ae ag a2 a1 a0 a3 af R w) : Calls Try.prog 15 #[.agg #[.int .i64 a5, .int .i64 a9, .int .u64 ad, .int .i64 ai, .int .i64 ah, .int .i64 aa, .slice ac a8 ab, .int .u64 aj, .int .i64 a4, .int .i64 a6, .int .u64 a7, .int .i64 ae, .int .i64 ag, .int .i64 a2, .slice a1 a0 a3, .int .u64 af]] w fun e w' => ∃ v, e = .returned v ∧ R v w' := Q0f.ok a5 a9 ad ai ah aa ac a8 ab aj a4 a6 a7 ae ag a2 a1 a0 a3 af (Q0f.up a5 a9 ad ai ah aa ac a8 ab aj a4 a6 a7 ae ag a2 a1 a0 a3 af h)
theorem Q0f.run (a5 a9 ad ai ah aa : Int) (ac : Option Addr) (a8 ab : Nat) (aj a4 a6 a7 ae ag a2 : Int) (a1 : Option Addr) (a0 a3 : Nat) (af : Int) {V : Value} {Q : World → Prop} {w : World} (h : Q0f.N a5 a9 ad ai ah aa ac a8 ab aj a4 a6 a7 ae ag a2 a1 a0 a3 af (fun v w' => v = V ∧ Q w') w) : Calls Try.prog 15 #[.agg #[.int .i64 a5, .int .i64 a9, .int .u64 ad, .int .i64 ai, .int .i64 ah, .int .i64 aa, .slice ac a8 ab, .int .u64 aj, .int .i64 a4, .int .i64 a6, .int .u64 a7, .int .i64 ae, .int .i64 ag, .int .i64 a2, .slice a1 a0 a3, .int .u64 af]] w (Ret V Q) := (Q0f.go a5 a9 ad ai ah aa ac a8 ab aj a4 a6 a7 ae ag a2 a1 a0 a3 af h).mono fun e w' ⟨v, he, hv, hq⟩ => ⟨by rw [he, hv], hq⟩
set_option maxRecDepth 20000
open W (OwnB GivesW numR countR doneR zig unzig intR)
section
variable {w w' : World} {o o' : Own} {k j n : Nat} {K : Nat → Prop} {S : OS} {a b c d : Ent} {aa ba ca da : Option Addr} {ac bc cc dc : Nat}
structure PP where
  x : PE
  y : PE
def PP.C (p : PP) : List Value := p.x.C ++ p.y.C
def PP.v (p : PP) : Value := prfV p.x.e p.x.a p.x.c p.y.e p.y.a p.y.c
def PP.p (p : PP) : Ent × Ent := (p.x.e, p.y.e)
def PP.Cs (l : List PP) : List Value := l.flatMap PP.C
theorem PP.len (p : PP) : p.C.length = 16 := rfl
def PP.ok (w : World) (o : Own) (p : PP) : Prop := Row w o p.x.a (bytesV p.x.e.body) ∧ Row w o p.y.a (bytesV p.y.e.body) ∧ p.x.e.body.length ≤ p.x.c ∧ p.y.e.body.length ≤ p.y.c
theorem PP.ok.step {p : PP} (h : p.ok w o) (s : Step K w o w' o') : p.ok w' o' := ⟨h.1.step s, h.2.1.step s, h.2.2⟩
theorem PP.one (p : PP) : ∀ u ∈ p.C, u.oneCell' = true := fun u hu => (List.mem_append.1 hu).elim (PE.one _ u) (PE.one _ u)
theorem PP.Cs_length (l : List PP) : (PP.Cs l).length = l.length * 16 := Q2f PP.len l
theorem PP.Cs_set {l : List PP} {i : Nat} (x : PP) (h : i < l.length) : setAll (PP.Cs l) (i * 16) x.C = PP.Cs (l.set i x) := Q25 (f := PP.C) (n := 16) PP.len x h
def zz : Ent × Ent := (Ent.zero, Ent.zero)
theorem Q3m : Calls Try.prog 15 #[prfV a aa ac b ba bc] w (Ret (prfV a aa ac b ba bc) fun w' => Ext no w w') := by
  refine Q0f.run a.w a.i a.pv a.t a.tw a.ep aa a.body.length ac a.sg b.w b.i b.pv b.t b.tw b.ep ba b.body.length bc b.sg ?_
  unfold Q0f.N
  exact fun w19 X => ⟨rfl, X⟩
theorem Q3a (ha : RowAt w aa (bytesV a.body)) (hb : RowAt w ba (bytesV b.body)) (hc : RowAt w ca (bytesV c.body)) (hd : RowAt w da (bytesV d.body)) (la : a.body.length < 1000000) (lb : b.body.length < 1000000) :
    Calls Try.prog 14 #[prfV a aa ac b ba bc, prfV c ca cc d da dc] w (Ret (.bool (decide ((a, b) = (c, d)))) fun w' => Ext no w w') := by
  refine Q0g.run a.w a.i a.pv a.t a.tw a.ep aa a.body.length ac a.sg b.w b.i b.pv b.t b.tw b.ep ba b.body.length bc b.sg c.w c.i c.pv c.t c.tw c.ep ca c.body.length cc c.sg d.w d.i d.pv d.t d.tw d.ep da d.body.length dc d.sg ?_
  unfold Q0g.N
  intro w34 p35 p36 X34 hp
  refine (Q28 (e := a) (f := c) (ha.no X34) (hc.no X34) la).mono fun x w39 ⟨he, X39⟩ => ⟨_, he, X39.kept, fun h => ?_, fun h => ?_⟩
  · have h := of_decide_eq_true h
    have X := X34.trans X39
    refine (Q28 (e := b) (f := d) (hb.no X) (hd.no X) lb).mono fun x w43 ⟨he, X43⟩ => ⟨_, he, ?_, X.trans X43⟩
    congr 1; rw [decide_eq_decide]; exact ⟨fun q => by rw [h, q], fun q => (Prod.mk.inj q).2⟩
  · have h := of_decide_eq_false h
    exact ⟨by rw [decide_eq_false (fun q => h (Prod.mk.inj q).1)], X34.trans X39⟩
def Slim (l : List (Int × (Ent × Ent))) : Prop := ∀ q ∈ l, q.2.1.body.length ≤ 1000000 ∧ q.2.2.body.length ≤ 1000000
theorem Q2N {l : List (Int × (Ent × Ent))} {x : Int} {p : Ent × Ent} (h : alook l x = some p) : (x, p) ∈ l := by
  induction l with
  | nil => cases h
  | cons q r ih =>
    simp only [alook] at h
    by_cases hq : q.1 = x
    · rw [if_pos hq] at h; cases h; subst hq; exact List.mem_cons_self
    · rw [if_neg hq] at h; exact List.mem_cons_of_mem _ (ih h)
theorem Slim.at {l : List (Int × (Ent × Ent))} (h : Slim l) (x : Int) : ((alook l x).getD zz).1.body.length ≤ 1000000 ∧ ((alook l x).getD zz).2.body.length ≤ 1000000 := by
  cases hx : alook l x with
  | none => exact ⟨Nat.zero_le _, Nat.zero_le _⟩
  | some p => exact h _ (Q2N hx)
theorem PrfL.find {l : List (Int × (Ent × Ent))} {lv : List (Int × Value)} (h5 : PrfL w o l lv) (x : Int) : ∃ (xa : Option Addr) (xc : Nat) (ya : Option Addr) (yc : Nat), ((mlook lv x).getD (.agg #[.int .i64 0, .int .i64 0, .int .u64 0, .int .i64 0, .int .i64 0, .int .i64 0, .slice none 0 0, .int .u64 0, .int .i64 0, .int .i64 0, .int .u64 0, .int .i64 0, .int .i64 0, .int .i64 0, .slice none 0 0, .int .u64 0])) = prfV ((alook l x).getD zz).1 xa xc ((alook l x).getD zz).2 ya yc ∧ (mlook lv x).isSome = (alook l x).isSome ∧ Row w o xa (bytesV ((alook l x).getD zz).1.body) ∧ Row w o ya (bytesV ((alook l x).getD zz).2.body) := by
  rcases h5.look x with ⟨e1, e2⟩ | ⟨s, v, e1, e2, xa, xc, ya, yc, e3, e4, e5, _⟩
  · rw [e1, e2]; exact ⟨none, 0, none, 0, rfl, rfl, Row.nil _ _ _, Row.nil _ _ _⟩
  · rw [e1, e2]; exact ⟨xa, xc, ya, yc, e3, rfl, e4, e5⟩
theorem Of_spec {l : List (Int × (Ent × Ent))} (A : Alm w o j l) (ok : Tags w o) (hs : Slim l) (x : Int) :
    Calls Try.prog 13 #[.pointer (some (blk j)), .int .i64 x] w (fun e w' => ∃ (o' : Own) (p : PP), e = .returned (.tuple #[p.v, .bool (alook l x).isSome]) ∧ Step no w o w' o' ∧ p.p = (alook l x).getD zz ∧ p.ok w' o') := by
  refine (Q09.go (some (blk j)) x (R := fun v w' => ∃ (o' : Own) (p : PP), v = (.tuple #[p.v, .bool (alook l x).isSome]) ∧ Step no w o w' o' ∧ p.p = (alook l x).getD zz ∧ p.ok w' o') ?_).mono fun e w' ⟨v, he, o', p, hv, hw⟩ => ⟨o', p, by rw [he, hv], hw⟩
  obtain ⟨_, q, lv, h1, h2, h3, h4, h5⟩ := id A
  unfold Q09.N
  refine ⟨fun h => (by cases h), fun _ => ⟨_, rfl, some q, h1.cella (i := 0) rfl, fun w3 p10 X3 hp => ?_⟩⟩
  obtain ⟨s3, M3⟩ := Step.priv X3 hp ok
  have g10 := hp p10 (by simp)
  obtain ⟨i, hi, hz, hsz, hby⟩ := info_of inf38
  have hlk := (h2.ext X3 id).lookup (Q1z (k := .i64) Try.underlying3) Try.underlying67 hi hz x true
  obtain ⟨xa, xc, ya, yc, key, kis, rx, ry⟩ := h5.find x
  obtain ⟨lx, ly⟩ := hs.at x
  generalize (alook l x).getD zz = pr at *
  obtain ⟨u, v⟩ := pr
  dsimp only at key rx ry lx ly
  rw [if_pos rfl, key, kis] at hlk
  refine ⟨u.w, u.i, u.pv, u.t, u.tw, u.ep, xa, u.body.length, xc, u.sg, v.w, v.i, v.pv, v.t, v.tw, v.ep, ya, v.body.length, yc, v.sg, (alook l x).isSome, hlk, fun w30 X30 => ?_⟩
  have s30' := Step.stores X30 s3.ok M3 (by simp)
  have s30 := s3.trans' s30' fun i hi => .inr (by simp at hi; omega)
  have M30 := M3.step s30'
  refine (Q0Y (e := u) s30.ok (rx.step s30) lx).mono fun e w40 ⟨o40, ca, cc, he, s40', rc, lc⟩ => ⟨_, _, _, _, _, _, _, _, _, _, he, M30.keep s40' (fun _ _ => id), ?_⟩
  have s40 := s30.trans s40'
  have M40 := M30.step s40'
  refine (Q0Y (e := v) s40.ok (ry.step s40) ly).mono fun e w50 ⟨o50, da, dc, he, s50', rd, ld⟩ => ⟨_, _, _, _, _, _, _, _, _, _, he, M40.keep s50' (fun _ _ => id), fun w51 X51 => ?_⟩
  have s50 := s40.trans s50'
  have s51' := Step.stores X51 s50.ok (M40.step s50') (by simp)
  have s51 := s50.trans' s51' fun i hi => .inr (by simp at hi; omega)
  exact ⟨_, ⟨⟨u, ca, cc⟩, ⟨v, da, dc⟩⟩, rfl, s51, rfl, (rc.step s50').step s51', rd.step s51', lc, ld⟩
theorem Of_nil (x : Int) : Calls Try.prog 13 #[.pointer none, .int .i64 x] w (Ret (.tuple #[prfV Ent.zero none 0 Ent.zero none 0, .bool false]) fun w' => Ext no w w') := by
  refine Q09.run none x ?_
  unfold Q09.N
  exact ⟨fun _ w5 X => ⟨rfl, X⟩, fun h => absurd rfl h⟩
theorem Q3F : Calls Try.prog 12 #[.pointer none] w (Ret (.slice none 0 0) fun w' => w' = w) := by
  refine Q05.run none ?_
  unfold Q05.N
  exact ⟨fun _ => ⟨rfl, rfl⟩, fun h => absurd rfl h⟩
theorem On_nil : Calls Try.prog 16 #[.pointer none] w (Ret (.bool false) fun w' => w' = w) := by
  refine Q0c.run none ?_
  unfold Q0c.N
  exact ⟨fun h => absurd rfl h, fun _ => ⟨rfl, rfl⟩⟩
theorem Q4c (p : Int) (ko : Option Addr) : Calls Try.prog 10 #[.pointer none, .pointer ko, .int .u64 p, prfV a aa ac b ba bc] w (Ret (.int .i64 23) fun w' => Ext no w w') := by
  refine Q04.run none ko p a.w a.i a.pv a.t a.tw a.ep aa a.body.length ac a.sg b.w b.i b.pv b.t b.tw b.ep ba b.body.length bc b.sg ?_
  unfold Q04.N
  exact ⟨fun _ w20 X => ⟨rfl, X⟩, fun h => absurd rfl h⟩
end
end Go.Proofs.Ytebghegecofmhaa
set_option maxHeartbeats 4000000
namespace Go.Proofs.Ytebghegecofmhaa
open Go Go.Mx Go.Proofs Go.Shelf
def kA_ren : Go.Shelf.Ren := ⟨fun | 7 => 29 | 10 => 39 | n => n, fun | 23 => 67 | 26 => 3 | 3 => 38 | 28 => 82 | 0 => 0 | 27 => 81 | 33 => 93 | 4 => 4 | n => n, fun | n => n⟩
theorem kA : Go.Proofs.SlLaysZI.n7 Try.prog kA_ren := {
  mixed := by kernel_rfl
  f7 := ⟨Try.f29.name, by decide, Try.func29.trans (congrArg some (by kernel_rfl))⟩
  f10 := ⟨Try.f39.name, by decide, Try.func39.trans (congrArg some (by kernel_rfl))⟩
  t0 := Try.underlying0
  a0 := Try.isAgg0
  z0 := Try.sizeOf0
  v0 := Try.zeroValue0
  t4 := Try.underlying4
  a4 := Try.isAgg4
  z4 := Try.sizeOf4
  v4 := Try.zeroValue4
  t23 := Try.underlying67
  a23 := Try.isAgg67
  z23 := Try.sizeOf67
  v23 := Try.zeroValue67
  t26 := Try.underlying3
  a26 := Try.isAgg3
  z26 := Try.sizeOf3
  v26 := Try.zeroValue3
  t27 := Try.underlying81
  a27 := Try.isAgg81
  z27 := Try.sizeOf81
  v27 := Try.zeroValue81
  t28 := Try.underlying82
  a28 := Try.isAgg82
  z28 := Try.sizeOf82
  v28 := Try.zeroValue82
  t33 := Try.underlying93
  a33 := Try.isAgg93
  z33 := Try.sizeOf93
  v33 := Try.zeroValue93 }
def sA_ren : Go.Shelf.Ren := ⟨fun | 6 => 28 | 8 => 37 | 9 => 38 | 11 => 48 | 13 => 50 | 12 => 49 | 23 => 62 | 24 => 63 | 14 => 53 | 15 => 54 | 16 => 55 | 17 => 56 | 18 => 57 | 19 => 58 | 20 => 59 | 21 => 60 | 22 => 61 | 25 => 64 | 26 => 65 | 27 => 66 | 28 => 67 | 29 => 68 | 30 => 69 | 31 => 70 | n => n, fun | 26 => 3 | 28 => 82 | 24 => 23 | 0 => 0 | 3 => 3 | 37 => 106 | 48 => 119 | 50 => 27 | 4 => 4 | 40 => 111 | 39 => 110 | 45 => 116 | 5 => 5 | 9 => 9 | 51 => 121 | 55 => 124 | 57 => 126 | 58 => 127 | 33 => 93 | n => n, fun | n => n⟩
theorem sA : Go.Proofs.SlLaysZI.n6 Try.prog sA_ren := {
  mixed := by kernel_rfl
  f6 := ⟨Try.f28.name, by decide, Try.func28.trans (congrArg some (by kernel_rfl))⟩
  f8 := ⟨Try.f37.name, by decide, Try.func37.trans (congrArg some (by kernel_rfl))⟩
  f11 := ⟨Try.f48.name, by decide, Try.func48.trans (congrArg some (by kernel_rfl))⟩
  t0 := Try.underlying0
  a0 := Try.isAgg0
  z0 := Try.sizeOf0
  v0 := Try.zeroValue0
  t24 := Try.underlying23
  a24 := Try.isAgg23
  z24 := Try.sizeOf23
  v24 := Try.zeroValue23
  t26 := Try.underlying3
  a26 := Try.isAgg3
  z26 := Try.sizeOf3
  v26 := Try.zeroValue3
  t28 := Try.underlying82
  a28 := Try.isAgg82
  z28 := Try.sizeOf82
  v28 := Try.zeroValue82
  i26 := by kernel_rfl }
def tA_ren : Go.Shelf.Ren := ⟨fun | 5 => 38 | 8 => 50 | 7 => 49 | 19 => 62 | 20 => 63 | 10 => 53 | 11 => 54 | 12 => 55 | 13 => 56 | 14 => 57 | 15 => 58 | 16 => 59 | 17 => 60 | 18 => 61 | 30 => 64 | 31 => 65 | 32 => 66 | 33 => 67 | 34 => 68 | 35 => 69 | 40 => 70 | n => n, fun | 23 => 23 | 25 => 3 | 3 => 3 | 32 => 106 | 22 => 23 | 0 => 0 | 44 => 119 | 46 => 27 | 4 => 4 | 36 => 111 | 35 => 110 | 41 => 116 | 5 => 5 | 9 => 9 | 53 => 121 | 57 => 124 | 63 => 126 | 64 => 127 | n => n, fun | n => n⟩
theorem tA : Go.Proofs.SlLaysM.n5 Try.prog tA_ren := {
  mixed := by kernel_rfl
  f5 := ⟨Try.f38.name, by decide, Try.func38.trans (congrArg some (by kernel_rfl))⟩
  f7 := ⟨Try.f49.name, by decide, Try.func49.trans (congrArg some (by kernel_rfl))⟩
  f8 := Try.func50.trans (congrArg some (by kernel_rfl))
  f10 := ⟨Try.f53.name, by decide, Try.func53.trans (congrArg some (by kernel_rfl))⟩
  f11 := ⟨Try.f54.name, by decide, Try.func54.trans (congrArg some (by kernel_rfl))⟩
  f12 := ⟨Try.f55.name, by decide, Try.func55.trans (congrArg some (by kernel_rfl))⟩
  f13 := ⟨Try.f56.name, by decide, Try.func56.trans (congrArg some (by kernel_rfl))⟩
  f14 := ⟨Try.f57.name, by decide, Try.func57.trans (congrArg some (by kernel_rfl))⟩
  f15 := ⟨Try.f58.name, by decide, Try.func58.trans (congrArg some (by kernel_rfl))⟩
  f16 := ⟨Try.f59.name, by decide, Try.func59.trans (congrArg some (by kernel_rfl))⟩
  f17 := ⟨Try.f60.name, by decide, Try.func60.trans (congrArg some (by kernel_rfl))⟩
  f18 := ⟨Try.f61.name, by decide, Try.func61.trans (congrArg some (by kernel_rfl))⟩
  f19 := Try.func62.trans (congrArg some (by kernel_rfl))
  f20 := Try.func63.trans (congrArg some (by kernel_rfl))
  f30 := ⟨Try.f64.name, by decide, Try.func64.trans (congrArg some (by kernel_rfl))⟩
  f31 := Try.func65.trans (congrArg some (by kernel_rfl))
  f32 := Try.func66.trans (congrArg some (by kernel_rfl))
  f33 := ⟨Try.f67.name, by decide, Try.func67.trans (congrArg some (by kernel_rfl))⟩
  f34 := ⟨Try.f68.name, by decide, Try.func68.trans (congrArg some (by kernel_rfl))⟩
  f35 := ⟨Try.f69.name, by decide, Try.func69.trans (congrArg some (by kernel_rfl))⟩
  f40 := ⟨Try.f70.name, by decide, Try.func70.trans (congrArg some (by kernel_rfl))⟩
  t0 := Try.underlying0
  a0 := Try.isAgg0
  z0 := Try.sizeOf0
  v0 := Try.zeroValue0
  t3 := Try.underlying3
  a3 := Try.isAgg3
  z3 := Try.sizeOf3
  v3 := Try.zeroValue3
  t4 := Try.underlying4
  a4 := Try.isAgg4
  z4 := Try.sizeOf4
  v4 := Try.zeroValue4
  t5 := Try.underlying5
  a5 := Try.isAgg5
  z5 := Try.sizeOf5
  v5 := Try.zeroValue5
  t9 := Try.underlying9
  a9 := Try.isAgg9
  z9 := Try.sizeOf9
  v9 := Try.zeroValue9
  t22 := Try.underlying23
  a22 := Try.isAgg23
  z22 := Try.sizeOf23
  v22 := Try.zeroValue23
  t23 := Try.underlying23
  a23 := Try.isAgg23
  z23 := Try.sizeOf23
  v23 := Try.zeroValue23
  t25 := Try.underlying3
  a25 := Try.isAgg3
  z25 := Try.sizeOf3
  v25 := Try.zeroValue3
  t32 := Try.underlying106
  a32 := Try.isAgg106
  z32 := Try.sizeOf106
  v32 := Try.zeroValue106
  t35 := Try.underlying110
  a35 := Try.isAgg110
  z35 := Try.sizeOf110
  v35 := Try.zeroValue110
  t36 := Try.underlying111
  a36 := Try.isAgg111
  z36 := Try.sizeOf111
  v36 := Try.zeroValue111
  t41 := Try.underlying116
  a41 := Try.isAgg116
  z41 := Try.sizeOf116
  v41 := Try.zeroValue116
  t44 := Try.underlying119
  a44 := Try.isAgg119
  z44 := Try.sizeOf119
  v44 := Try.zeroValue119
  t46 := Try.underlying27
  a46 := Try.isAgg27
  z46 := Try.sizeOf27
  v46 := Try.zeroValue27
  t53 := Try.underlying121
  a53 := Try.isAgg121
  z53 := Try.sizeOf121
  v53 := Try.zeroValue121
  t57 := Try.underlying124
  a57 := Try.isAgg124
  z57 := Try.sizeOf124
  v57 := Try.zeroValue124
  t63 := Try.underlying126
  a63 := Try.isAgg126
  z63 := Try.sizeOf126
  v63 := Try.zeroValue126
  t64 := Try.underlying127
  a64 := Try.isAgg127
  z64 := Try.sizeOf127
  v64 := Try.zeroValue127 }
theorem sortsA (m : Nat) : AnyZI.SortsIn Try.prog sA_ren Fence.wide m :=
  ⟨fun blk off cap ss W hH hblk hsz => callsIn_wide.2 (AnyM.slices_Sort_int tA blk off cap ss W hH hblk hsz), fun p cap W => callsIn_wide.2 (AnyM.slices_Sort_int_none tA p cap W)⟩
theorem Q2P (q : Nat) (w : World) : Calls Try.prog 29 #[.map (some q)] w fun e w' => e = .returned (.func (.func 39) #[] #[.pointer (some (blk w.heap.size))]) ∧ w' = w.alloc (.cells #[.map (some q)] 67) :=
  (callsIn_wide (n := 5)).1 (AnyZI.keys_in kA Fence.wide 5 trivial rfl (some q) w)
def plainK (_ : Value) : Option (DataW Unit × List MemPlace) := some (.nil, [])
def numV : Value → Int
  | .int _ a => a
  | _ => 0
theorem Q3f {x : Int} (h : 0 ≤ x ∧ x < 8) : Go.keyOf Try.prog 3 (i64V x) = some (.int .i64 x) := by
  have hw : (Lit.int .i64 x).wf = true := by simp [Lit.wf, IntKind.min, IntKind.max, IntKind.signed, IntKind.bits]; omega
  simp [Go.keyOf, i64V, Try.underlying3, mapKey, hw]
def sortedK {α : Type} (l : List (Int × α)) : List Int := (l.map (·.1)).mergeSort leI
theorem Q47 {w : World} {q : Nat} {lv : List (Int × Value)} (h : MapIs w q i64V lv) (hnd : (lv.map (·.1)).Nodup) (hk : ∀ p ∈ lv, 0 ≤ p.1 ∧ p.1 < 8) (hl : lv.length ≤ 1000000) :
    ∃ D : DataW Unit, w.ownsMap Try.prog 3 plainK q lv.length D ∧ Maps.size D = lv.length ∧ (intKeys D).Perm (lv.map (·.1)) := by
  obtain ⟨es, clock, hb, hm, hp, hc⟩ := h
  have hsz : es.size = lv.length := by have := congrArg List.length hm; simpa using this
  have hkeys : es.toList.map (·.key) = lv.map fun p => i64V p.1 := by
    have := congrArg (List.map Prod.fst) hm
    simpa [List.map_map, Function.comp_def] using this
  have hrd : ∀ x ∈ es.toList, ∃ n : Int, 0 ≤ n ∧ n < 8 ∧ x.key = i64V n := fun x hx => by
    have : x.key ∈ lv.map fun p => i64V p.1 := by rw [← hkeys]; exact List.mem_map_of_mem hx
    obtain ⟨p, hp, he⟩ := List.mem_map.1 this
    exact ⟨p.1, (hk p hp).1, (hk p hp).2, he.symm⟩
  have hrd2 : ∀ x ∈ es.toList, WideElems.rd Try.prog 3 plainK x = some (.int .i64 (numV x.key), .nil) := fun x hx => by
    obtain ⟨n, h0, h8, he⟩ := hrd x hx
    unfold WideElems.rd
    rw [he, Q3f ⟨h0, h8⟩]; rfl
  refine ⟨_, ⟨es, clock, hb, ⟨by rw [hsz]; unfold maxLen; omega, ⟨hc, ?_, ?_⟩, fun x hx => ⟨_, hrd2 x hx⟩⟩, by omega, rfl⟩, ?_, ?_⟩
  · exact hp.imp fun h e => by omega
  · rw [hkeys]
    have : (lv.map fun p => i64V p.1) = (lv.map (·.1)).map i64V := by simp [List.map_map, Function.comp_def]
    rw [this]
    exact List.pairwise_map.2 (hnd.imp fun h e => h (by injection e))
  · rw [Maps.size_eq, (WideShapes.sorted_perm _).length_eq, List.length_map]; simpa using hsz
  · have e1 : (es.toList.map fun x => Go.intOf (WideElems.rg Try.prog 3 plainK x).1) = lv.map (·.1) := by
      have : (es.toList.map fun x => Go.intOf (WideElems.rg Try.prog 3 plainK x).1) = (es.toList.map (·.key)).map numV := by
        rw [List.map_map]
        refine List.map_congr_left fun x hx => ?_
        unfold WideElems.rg
        rw [hrd2 x hx]; rfl
      rw [this, hkeys, List.map_map]; rfl
    have := ((WideShapes.sorted_perm (es.toList.map (WideElems.rg Try.prog 3 plainK))).map fun p => Go.intOf p.1)
    rw [List.map_map] at this
    rw [← e1]; exact this
theorem Q2b {w : World} {q : Nat} {lv : List (Int × Value)} (h : MapIs w q i64V lv) (hnd : (lv.map (·.1)).Nodup) (hk : ∀ p ∈ lv, 0 ≤ p.1 ∧ p.1 < 8) (hl : lv.length ≤ 1000000) :
    Calls Try.prog 28 #[.func (.func 39) #[] #[.pointer (some (blk w.heap.size))]] (w.alloc (.cells #[.map (some q)] 67))
      fun e w' => ∃ a c, e = .returned (.slice a lv.length c) ∧ RowAt w' a ((sortedK lv).map i64V) ∧ (∀ ad, a = some ad → w.heap.size ≤ ad.block) ∧ Ext no w w' := by
  obtain ⟨D, hown, hD, hperm⟩ := Q47 h hnd hk hl
  have hlt := h.lt
  refine (callsIn_wide (n := 5)).1 ?_
  have hseq : SeqGives Fence.wide 2 Try.prog 39 #[.pointer (some ⟨w.heap.size, 0, none⟩)] encZ (fun ss => ss.Perm (intKeys D)) (Maps.size D) (w.alloc (.cells #[.map (some q)] 67)) :=
    AnyZI.keys_gives (ρ := kA_ren) { kA with } Fence.wide _ trivial rfl (by omega) w.heap.size q lv.length D _ (by simp) (by simp) (by
      obtain ⟨es, clock, hb, Ft, hs, hD⟩ := hown
      exact ⟨es, clock, (Go.RowKit.Below.heap_alloc _ _ q hlt).trans hb, Ft, hs, hD⟩)
  have cS := AnyZI.sorted_in sA Fence.wide 5 trivial trivial trivial trivial rfl (by omega) (sortsA _) (enters_of Try.func38 (by kernel_rfl) rfl) 39 #[.pointer (some ⟨w.heap.size, 0, none⟩)] trivial (enters_of Try.func39 (by kernel_rfl) rfl) _ _ (by rw [hD]; unfold maxLen; omega) (by rw [hD]; omega) _ hseq
  refine cS.mono ?_
  rintro e w' ⟨v, ss, rfl, hS, hrow, hnil, hb⟩
  have hlen : ss.length = lv.length := by rw [(hS.trans hperm).length_eq, List.length_map]
  have hsort : ss.mergeSort leI = sortedK lv := mergeSort_of_perm_i (hS.trans hperm)
  have X1 : Ext no w (w.alloc (.cells #[.map (some q)] 67)) := (Ext.refl _ _).alloc _
  have X2 : Ext no (w.alloc (.cells #[.map (some q)] 67)) w' := ⟨hb.os, hb.tape, hb.output, hb.size, fun k hk _ => hb.block k hk⟩
  obtain ⟨a, c, hv, hr⟩ := RowAt.of_owns hrow
  subst hv

  have hfr : ∀ ad, a = some ad → w.heap.size ≤ ad.block := fun ad ha => by
    subst ha
    rcases hrow.2 with ⟨hv, _⟩ | ⟨g, cap, cur, hv, hb, _⟩
    · cases hv
    · cases hv; exact Nat.le_trans X1.size hb
  refine ⟨a, c, by rw [hlen], ?_, hfr, X1.trans X2⟩
  have : ((sortedK lv).map i64V) = (ss.mergeSort leI).map encZ := by rw [hsort]; rfl
  rw [this]; exact hr
abbrev AL := List (Int × (Ent × Ent))
structure Fine (al : AL) : Prop where
  nd : (al.map (·.1)).Nodup
  rng : ∀ p ∈ al, 0 ≤ p.1 ∧ p.1 < 8
  sm : ∀ p ∈ al, p.2.1.body.length ≤ 1500 ∧ p.2.2.body.length ≤ 1500
def hasK (al : AL) (i : Nat) : Bool := (alook al (i : Int)).isSome
def hasL (al : AL) : List Value := (List.range 8).map fun i => .bool (hasK al i)
def inL (al : AL) : List Nat := (List.range 8).filter (hasK al)
def cntK (al : AL) (t : Nat) : Nat := ((List.range t).filter (hasK al)).length
theorem Fine.nil : Fine [] := ⟨List.nodup_nil, (fun p h => by cases h), (fun p h => by cases h)⟩
theorem Q0V {al : AL} {x : Int} : (alook al x).isSome = true ↔ x ∈ al.map (·.1) := by
  induction al with
  | nil => simp [alook]
  | cons p r ih =>
    simp only [alook, List.map_cons, List.mem_cons]
    by_cases h : p.1 = x
    · rw [if_pos h]; simp [h]
    · rw [if_neg h, ih]; simp [Ne.symm h]
theorem Q2T {al : AL} {x : Int} (h : alook al x = none) (v : Ent × Ent) : aput al x v = al ++ [(x, v)] := by
  induction al with
  | nil => rfl
  | cons p r ih =>
    simp only [alook] at h
    by_cases hp : p.1 = x
    · rw [if_pos hp] at h; cases h
    · rw [if_neg hp] at h; simp only [aput, if_neg hp, ih h]; rfl
theorem Fine.put {al : AL} (h : Fine al) {x : Int} (hx : alook al x = none) (h0 : 0 ≤ x ∧ x < 8) {a b : Ent} (ha : a.body.length ≤ 1500) (hb : b.body.length ≤ 1500) : Fine (aput al x (a, b)) := by
  rw [Q2T hx]
  refine ⟨?_, fun p hp => ?_, fun p hp => ?_⟩
  · rw [List.map_append, List.nodup_append]
    refine ⟨h.nd, by simp, fun y hy z hz e => ?_⟩
    simp at hz; subst hz; subst e
    have := Q0V.2 hy
    rw [hx] at this; cases this
  · rcases List.mem_append.1 hp with hp | hp
    · exact h.rng p hp
    · simp at hp; subst hp; exact h0
  · rcases List.mem_append.1 hp with hp | hp
    · exact h.sm p hp
    · simp at hp; subst hp; exact ⟨ha, hb⟩
theorem Fine.slim {al : AL} (h : Fine al) : Slim al := fun q hq => ⟨by have := (h.sm q hq).1; omega, by have := (h.sm q hq).2; omega⟩
theorem Q2r {al : AL} (h : Fine al) : sortedK al = (inL al).map Int.ofNat := by
  have hp : ((inL al).map Int.ofNat).Pairwise (fun x y => leI x y = true) := by
    refine List.pairwise_map.2 ((List.pairwise_lt_range.filter (hasK al)).imp fun {x y} hxy => ?_)
    simp only [leI, decide_eq_true_eq]
    exact Int.ofNat_le.2 (Nat.le_of_lt hxy)
  have hnd : ((inL al).map Int.ofNat).Nodup := by
    refine List.pairwise_map.2 ((List.nodup_range.filter (hasK al)).imp fun {x y} hne e => hne (by injection e))
  have hmem : ∀ x, x ∈ al.map (·.1) ↔ x ∈ (inL al).map Int.ofNat := fun x => by
    rw [← Q0V, List.mem_map]
    constructor
    · intro hx
      obtain ⟨p, hp, rfl⟩ := List.mem_map.1 (Q0V.1 hx)
      have hr := h.rng p hp
      have e : Int.ofNat p.1.toNat = p.1 := Int.toNat_of_nonneg hr.1
      refine ⟨p.1.toNat, List.mem_filter.2 ⟨List.mem_range.2 (by omega), ?_⟩, e⟩
      unfold hasK
      rw [show ((p.1.toNat : Nat) : Int) = p.1 from e]; exact hx
    · rintro ⟨i, hi, rfl⟩
      exact (List.mem_filter.1 hi).2
  have := mergeSort_of_perm_i ((List.perm_ext_iff_of_nodup h.nd hnd).2 hmem)
  unfold sortedK
  rw [this]
  exact List.mergeSort_of_pairwise hp
theorem inL_len {al : AL} (h : Fine al) : (inL al).length = al.length := by
  have := congrArg List.length (Q2r h)
  unfold sortedK at this
  rw [List.length_mergeSort, List.length_map, List.length_map] at this
  exact this.symm
theorem cnt_end (al : AL) : cntK al 8 = (inL al).length := rfl
theorem cnt_le (al : AL) (t : Nat) (h : t ≤ 8) : cntK al t ≤ (inL al).length := by
  unfold cntK inL
  obtain ⟨d, hd⟩ : ∃ d, 8 = t + d := ⟨8 - t, by omega⟩
  rw [hd, List.range_add, List.filter_append, List.length_append]; omega
theorem cnt_yes {al : AL} {t : Nat} (h : hasK al t = true) : cntK al (t + 1) = cntK al t + 1 := by
  unfold cntK
  rw [List.range_succ, List.filter_append]; simp [h]
theorem cnt_no {al : AL} {t : Nat} (h : hasK al t = false) : cntK al (t + 1) = cntK al t := by
  unfold cntK
  rw [List.range_succ, List.filter_append]; simp [h]
theorem inL_at {al : AL} {t : Nat} (ht : t < 8) (h : hasK al t = true) : (inL al)[cntK al t]? = some t := by
  unfold cntK inL
  obtain ⟨d, hd⟩ : ∃ d, 8 = t + (d + 1) := ⟨7 - t, by omega⟩
  rw [hd, List.range_add, List.filter_append, List.getElem?_append_right (Nat.le_refl _), Nat.sub_self, List.range_succ_eq_map, List.map_cons, Nat.add_zero, List.filter_cons_of_pos h]
  rfl
theorem Q4n {al : AL} {t : Nat} (ht : t < 8) : (hasL al)[t]? = some (.bool (hasK al t)) := by
  unfold hasL
  rw [List.getElem?_map, List.getElem?_range ht]; rfl
theorem Q4k {al : AL} {x : Nat} (hx : x < 8) (v : Ent × Ent) : (hasL al).set x (.bool true) = hasL (aput al (x : Int) v) := by
  refine List.ext_getElem (by simp [hasL]) fun i h1 h2 => ?_
  have h8 : i < 8 := by simpa [hasL] using h2
  rw [List.getElem_set]
  simp only [hasL, List.getElem_map, List.getElem_range]
  unfold hasK
  rw [Q0z]
  by_cases hi : x = i
  · subst hi; rw [if_pos rfl, if_pos rfl]; rfl
  · rw [if_neg hi, if_neg (by omega)]
section
variable {w w' : World} {o o' : Own} {k j n : Nat} {K : Nat → Prop}
theorem PrfL.keys : ∀ {l : AL} {lv : List (Int × Value)}, PrfL w o l lv → lv.map (·.1) = l.map (·.1)
  | [], [], _ => rfl
  | p :: r, q :: s, h => by simp only [List.map_cons, PrfL.keys h.2.2, h.1]
  | [], _ :: _, h => h.elim
  | _ :: _, [], h => h.elim
def kV (i : Nat) : Value := i64V (i : Int)
def atK (al : AL) (i : Nat) : Ent × Ent := (alook al (i : Int)).getD zz
theorem Q3l {al : AL} (A : Alm w o j al) (ok : Tags w o) (F : Fine al) :
    Calls Try.prog 12 #[.pointer (some (blk j))] w (fun e w' => ∃ (o' : Own) (a : Option Addr) (c : Nat) (ps : List PP), e = .returned (.slice a ps.length c) ∧ Step no w o w' o' ∧ ps.map PP.p = (inL al).map (atK al) ∧ Row w' o' a (PP.Cs ps) ∧ ∀ p ∈ ps, p.ok w' o') := by
  refine (Q05.go (some (blk j)) (R := fun v w' => ∃ (o' : Own) (a : Option Addr) (c : Nat) (ps : List PP), v = (.slice a ps.length c) ∧ Step no w o w' o' ∧ ps.map PP.p = (inL al).map (atK al) ∧ Row w' o' a (PP.Cs ps) ∧ ∀ p ∈ ps, p.ok w' o') ?_).mono fun e w' ⟨v, he, o', a, c, ps, hv, hw⟩ => ⟨o', a, c, ps, by rw [he, hv], hw⟩
  obtain ⟨hoj, q, lv, h1, h2, h3, h4, h5⟩ := id A
  have hkeys := h5.keys
  have hnd : (lv.map (·.1)).Nodup := by rw [hkeys]; exact F.nd
  have hk : ∀ p ∈ lv, 0 ≤ p.1 ∧ p.1 < 8 := fun p hp => by
    have : p.1 ∈ al.map (·.1) := by rw [← hkeys]; exact List.mem_map_of_mem hp
    obtain ⟨r, hr, e⟩ := List.mem_map.1 this
    rw [← e]; exact F.rng r hr
  have hlen := h5.len
  have hin := inL_len F
  have h8 : (inL al).length ≤ 8 := by
    have := List.length_filter_le (hasK al) (List.range 8)
    rw [List.length_range] at this; exact this
  unfold Q05.N
  refine ⟨fun h => (by cases h), fun _ => ⟨_, rfl, some q, h1.cella (i := 0) rfl, ?_⟩⟩
  refine (Q2P q w).mono fun e w8 ⟨he, hw8⟩ => ⟨_, _, _, he, ?_⟩
  subst hw8
  refine (Q2b h2 hnd hk (by omega)).mono fun e w11 ⟨sa, sc, he, hr, hfr, X11⟩ => ⟨_, _, _, he, ?_⟩
  have s11 := Step.of_no X11 ok
  have rK : Row w11 (grow w o) sa ((inL al).map kV) := by
    refine Row.fresh ?_ hfr
    have e1 : sortedK lv = sortedK al := by unfold sortedK; rw [hkeys]
    rw [e1, Q2r F, List.map_map] at hr
    exact hr
  have hn : lv.length = (inL al).length := by omega
  rw [hn]
  refine ⟨fun m vs w1 => ∃ (t : Nat) (a1 : Option Addr) (c1 : Nat) (ps : List PP) (o1 : Own), vs = [.slice a1 ps.length c1, .int .i64 t] ∧ m + t = (inL al).length ∧ ps.map PP.p = ((inL al).take t).map (atK al) ∧ Step no w o w1 o1 ∧ LRow 38 16 w.heap.size w1 o1 a1 ps.length c1 (PP.Cs ps) ∧ (∀ x ∈ ps, x.ok w1 o1) ∧ Row w1 o1 sa ((inL al).map kV), (inL al).length,
    ⟨0, none, 0, [], _, rfl, rfl, rfl, s11, LRow.nil _ _ _ _ _, (fun x h => by cases h), rK⟩, ?_⟩
  rintro m w1 ra rn rc i ⟨t, a1, c1, ps, o1, hi, hm, hmap, s1, hL, hok, rK1⟩
  simp only [List.cons.injEq, Value.slice.injEq, Value.int.injEq, true_and, and_true] at hi
  obtain ⟨⟨rfl, rfl, rfl⟩, rfl⟩ := hi
  have hps : ps.length = min t (inL al).length := by have := congrArg List.length hmap; simpa using this
  refine ⟨fun ht => ?_, fun ht => ?_⟩
  · have hti : t < (inL al).length := by omega
    obtain ⟨y, hy⟩ : ∃ y, (inL al)[t]? = some y := ⟨_, List.getElem?_eq_getElem hti⟩
    have hcell : ((inL al).map kV)[t]? = some (i64V (y : Int)) := by rw [List.getElem?_map, hy]; rfl
    obtain ⟨ad, rfl⟩ := rK1.1.addr (by intro e; have := congrArg List.length e; simp only [List.length_map, List.length_nil] at this; omega)
    have A1 := A.step s1 id
    obtain ⟨hoj1, q1, lv1, b1, b2, b3, b4, b5⟩ := id A1
    obtain ⟨i, hi, hz, hsz, hby⟩ := info_of inf38
    have hlk := b2.lookup (Q1z (k := .i64) Try.underlying3) Try.underlying67 hi hz (y : Int) false
    obtain ⟨xa, xc, ya, yc, key, kis, rx, ry⟩ := b5.find (y : Int)
    obtain ⟨lx, ly⟩ := F.slim.at (y : Int)
    have hat : (alook al (y : Int)).getD zz = atK al y := rfl
    rw [hat] at key rx ry lx ly
    generalize hpr : atK al y = pr at *
    obtain ⟨u, v⟩ := pr
    dsimp only at key rx ry lx ly
    rw [if_neg (by decide), key] at hlk
    refine ⟨ad, rfl, by omega, by omega, y, by rw [Int.toNat_natCast, Nat.mul_one]; exact rK1.1.at_ hcell, some q1, b1.cella (i := 0) rfl, u.w, u.i, u.pv, u.t, u.tw, u.ep, xa, u.body.length, xc, u.sg, v.w, v.i, v.pv, v.t, v.tw, v.ep, ya, v.body.length, yc, v.sg, hlk, fun w42 p43 X42 hp43 => ?_⟩
    obtain ⟨s42, M42⟩ := Step.priv X42 hp43 s1.ok
    refine (Q0Y (e := u) s42.ok (rx.step s42) lx).mono fun e w53 ⟨o53, ca, cc, he, s53, rc', lc⟩ => ⟨_, _, _, _, _, _, _, _, _, _, he, M42.keep s53 (fun _ _ => id), ?_⟩
    refine (Q0Y (e := v) s53.ok ((ry.step s42).step s53) ly).mono fun e w63 ⟨o63, da, dc, he, s63, rd, ld⟩ => ⟨_, _, _, _, _, _, _, _, _, _, he, fun w64 q65 X64 hb65 hq65 hq65' => ?_⟩
    have s64 := Step.of_no X64 s63.ok
    have s164 : Step no w1 o1 w64 _ := ((s42.trans s53).trans s63).trans s64
    have hL64 := hL.step s164 fun k h => h.elim
    have hnews : RowAt w64 (some (blk q65)) (PP.C ⟨⟨u, ca, cc⟩, ⟨v, da, dc⟩⟩) := RowAt.of_blk hb65
    have l1 := s1.size
    have l63 := ((s42.trans s53).trans s63).size
    obtain ⟨a', c', w67, o67, hr', s67, hL67, _⟩ := hL64.push (ty := 47) Try.underlying47 hi hz hsz hby rfl (by decide) s64.ok (p := q65) (by omega) hq65' (xa := some (blk q65)) (m := 1) (xc := 1) (news := PP.C ⟨⟨u, ca, cc⟩, ⟨v, da, dc⟩⟩) rfl hnews (PP.one _) (by omega) (by omega)
    refine ⟨a', _, c', w67, hr', by omega, by omega, m - 1, by omega, t + 1, a', c', ps ++ [⟨⟨u, ca, cc⟩, ⟨v, da, dc⟩⟩], o67, by simp, by omega, ?_, (s1.trans s164).trans' s67 (fun j hj => .inr hj), ?_, fun y hy => ?_, (rK1.step s164).step s67⟩
    · rw [List.map_append, hmap, List.take_add_one, hy, List.map_append]
      simp only [Option.toList_some, List.map_cons, List.map_nil, hpr]; rfl
    · have : PP.Cs (ps ++ [⟨⟨u, ca, cc⟩, ⟨v, da, dc⟩⟩]) = PP.Cs ps ++ PP.C ⟨⟨u, ca, cc⟩, ⟨v, da, dc⟩⟩ := by simp [PP.Cs]
      rw [List.length_append, this]; exact hL67
    · rcases List.mem_append.1 hy with hy | hy
      · exact ((hok y hy).step s164).step s67
      · simp at hy; subst hy
        exact ⟨((rc'.step s63).step s64).step s67, (rd.step s64).step s67, lc, ld⟩
  · have : t = (inL al).length := by omega
    subst this
    rw [List.take_length] at hmap
    exact ⟨_, _, _, ps, rfl, Step.of_no (s1.ext.mono fun b ⟨_, _, h⟩ _ => h) ok, hmap, hL.give s1 (Nat.le_refl _), fun x hx => ⟨(hok x hx).1.forget s1, (hok x hx).2.1.forget s1, (hok x hx).2.2⟩⟩
end
end Go.Proofs.Ytebghegecofmhaa
set_option linter.unusedSectionVars false
namespace Go.Mx
open Go
section
variable {P : Program} {w w' : World} {q k : Nat} {t e : TypeId} {cs vs : List Value}
theorem Q14 {w : World} {b k : Nat} (hb : Blk w b t cs) : ∀ (vs : List Value) (j : Nat), (∀ n v, vs[n]? = some v → cs[k + j + n]? = some v) → cellsAt w ((blk b).add k) vs j
  | [], _, _ => trivial
  | v :: r, j, h => by
    refine ⟨?_, Q14 hb r (j + 1) fun n u hu => ?_⟩
    · rw [add_add, add_blk]
      exact hb.cell (i := k + j) (h 0 v rfl)
    · have := h (n + 1) u (by simpa using hu)
      rwa [show k + (j + 1) + n = k + j + (n + 1) by omega]
end
end Go.Mx
set_option maxRecDepth 100000
set_option maxHeartbeats 40000000
namespace Go.Proofs.Ytebghegecofmhaa
open Go Go.Mx Go.Proofs
abbrev almL.J1 (bz ae : Int) (I2 : Nat → List Value → World → Prop) (ck : Nat) (cg : Option Addr) (az : Nat) (cs cu : World) (R : RW) (ch : World) : Prop :=
 0 ≤ (ae : Int) ∧ (ae : Int) < (8 : Int) ∧
 ∃ (cn : Bool), ch.cell? ((blk cu.heap.size).add (Int.toNat ae * 1)) = some (.bool cn) ∧
 bif cn then (
 thenW (ch.drew) fun c2 =>
 bif decide (bz ≥ (az : Int)) then (
 R (.bool false) c2) else (
 cg.elim False fun ct =>
 0 ≤ (bz : Int) ∧ (bz : Int) < (az : Int) ∧
 ∃ (af ax b6 bt bu b0 : Int) (b3 : Option Addr) (b1 au : Nat) (br ag b2 bg c1 bq an : Int) (av : Option Addr) (ay ar : Nat) (bw : Int), cellsAt c2 (ct.add (Int.toNat bz * 16)) [.int .i64 af, .int .i64 ax, .int .u64 b6, .int .i64 bt, .int .i64 bu, .int .i64 b0, .slice b3 b1 au, .int .u64 br, .int .i64 ag, .int .i64 b2, .int .u64 bg, .int .i64 c1, .int .i64 bq, .int .i64 an, .slice av ay ar, .int .u64 bw] 0 ∧
 0 ≤ (ae : Int) ∧ (ae : Int) < (8 : Int) ∧
 ∃ (a1 a7 ad ak ah a8 : Int) (a5 : Option Addr) (a6 a2 : Nat) (am a0 a3 ac aj al a9 : Int) (a4 : Option Addr) (aa ab : Nat) (ai : Int), cellsAt c2 ((blk cs.heap.size).add (Int.toNat ae * 16)) [.int .i64 a1, .int .i64 a7, .int .u64 ad, .int .i64 ak, .int .i64 ah, .int .i64 a8, .slice a5 a6 a2, .int .u64 am, .int .i64 a0, .int .i64 a3, .int .u64 ac, .int .i64 aj, .int .i64 al, .int .i64 a9, .slice a4 aa ab, .int .u64 ai] 0 ∧
 Calls Try.prog 15 #[.agg #[.int .i64 af, .int .i64 ax, .int .u64 b6, .int .i64 bt, .int .i64 bu, .int .i64 b0, .slice b3 b1 au, .int .u64 br, .int .i64 ag, .int .i64 b2, .int .u64 bg, .int .i64 c1, .int .i64 bq, .int .i64 an, .slice av ay ar, .int .u64 bw]] c2 fun cp cj => ∃ (aw bd bv ce cf bc : Int) (bb : Option Addr) (b7 bf : Nat) (cd aq bj bx c3 c5 bh : Int) (b5 : Option Addr) (bp bm : Nat) (cc : Int), cp = .returned (.agg #[.int .i64 aw, .int .i64 bd, .int .u64 bv, .int .i64 ce, .int .i64 cf, .int .i64 bc, .slice bb b7 bf, .int .u64 cd, .int .i64 aq, .int .i64 bj, .int .u64 bx, .int .i64 c3, .int .i64 c5, .int .i64 bh, .slice b5 bp bm, .int .u64 cc]) ∧
 cellsAt cj ((blk cs.heap.size).add (Int.toNat ae * 16)) [.int .i64 a1, .int .i64 a7, .int .u64 ad, .int .i64 ak, .int .i64 ah, .int .i64 a8, .slice a5 a6 a2, .int .u64 am, .int .i64 a0, .int .i64 a3, .int .u64 ac, .int .i64 aj, .int .i64 al, .int .i64 a9, .slice a4 aa ab, .int .u64 ai] 0 ∧
 Calls Try.prog 15 #[.agg #[.int .i64 a1, .int .i64 a7, .int .u64 ad, .int .i64 ak, .int .i64 ah, .int .i64 a8, .slice a5 a6 a2, .int .u64 am, .int .i64 a0, .int .i64 a3, .int .u64 ac, .int .i64 aj, .int .i64 al, .int .i64 a9, .slice a4 aa ab, .int .u64 ai]] cj fun cq co => ∃ (ap b8 bs c9 cb bk : Int) (b4 : Option Addr) (bo ba : Nat) (c7 ao be c0 c8 c6 bi : Int) (bn : Option Addr) (b9 bl : Nat) (c4 : Int), cq = .returned (.agg #[.int .i64 ap, .int .i64 b8, .int .u64 bs, .int .i64 c9, .int .i64 cb, .int .i64 bk, .slice b4 bo ba, .int .u64 c7, .int .i64 ao, .int .i64 be, .int .u64 c0, .int .i64 c8, .int .i64 c6, .int .i64 bi, .slice bn b9 bl, .int .u64 c4]) ∧
 Calls Try.prog 14 #[.agg #[.int .i64 aw, .int .i64 bd, .int .u64 bv, .int .i64 ce, .int .i64 cf, .int .i64 bc, .slice bb b7 bf, .int .u64 cd, .int .i64 aq, .int .i64 bj, .int .u64 bx, .int .i64 c3, .int .i64 c5, .int .i64 bh, .slice b5 bp bm, .int .u64 cc], .agg #[.int .i64 ap, .int .i64 b8, .int .u64 bs, .int .i64 c9, .int .i64 cb, .int .i64 bk, .slice b4 bo ba, .int .u64 c7, .int .i64 ao, .int .i64 be, .int .u64 c0, .int .i64 c8, .int .i64 c6, .int .i64 bi, .slice bn b9 bl, .int .u64 c4]] co fun cr ci => ∃ (ca : Bool), cr = .returned (.bool ca) ∧
 bif !ca then (
 R (.bool false) ci) else (
 ∃ cl, cl < ck ∧ I2 cl [.int .i64 (IntKind.i64.wrap (bz + 1)), .int .i64 (IntKind.i64.wrap (ae + 1))] ci))) else (
 ∃ cm, cm < ck ∧ I2 cm [.int .i64 bz, .int .i64 (IntKind.i64.wrap (ae + 1))] ch)

abbrev almL.J2 (dg af : Int) (I2 : Nat → List Value → World → Prop) (dh : Nat) (d0 cz : Option Addr) (cr : Nat) (d6 df : World) (R : RW) (d9 : World) : Prop :=
 Calls Try.prog 13 #[.pointer d0, .int .i64 af] d9 fun db d1 => ∃ (b2 b9 ca ch cf bz : Int) (bs : Option Addr) (bl bk : Nat) (cy ao b6 c7 cn cx bf : Int) (c0 : Option Addr) (ba br : Nat) (ck : Int) (d3 : Bool), db = .returned (.tuple #[.agg #[.int .i64 b2, .int .i64 b9, .int .u64 ca, .int .i64 ch, .int .i64 cf, .int .i64 bz, .slice bs bl bk, .int .u64 cy, .int .i64 ao, .int .i64 b6, .int .u64 c7, .int .i64 cn, .int .i64 cx, .int .i64 bf, .slice c0 ba br, .int .u64 ck], .bool d3]) ∧
 thenW (d1.alloc (.cells #[.int .i64 0, .int .i64 0, .int .u64 0, .int .i64 0, .int .i64 0, .int .i64 0, .slice none 0 0, .int .u64 0, .int .i64 0, .int .i64 0, .int .u64 0, .int .i64 0, .int .i64 0, .int .i64 0, .slice none 0 0, .int .u64 0] 38)) fun de =>
 putsK de (blk d1.heap.size) [.int .i64 b2, .int .i64 b9, .int .u64 ca, .int .i64 ch, .int .i64 cf, .int .i64 bz, .slice bs bl bk, .int .u64 cy, .int .i64 ao, .int .i64 b6, .int .u64 c7, .int .i64 cn, .int .i64 cx, .int .i64 bf, .slice c0 ba br, .int .u64 ck] 0 fun dc =>
 thenW (dc.drew) fun bi =>
 0 ≤ (af : Int) ∧ (af : Int) < (8 : Int) ∧
 ∃ (d5 : Bool), bi.cell? ((blk df.heap.size).add (Int.toNat af * 1)) = some (.bool d5) ∧
 bif !(d3 == d5) then (
 R (.bool false) bi) else (
 ∃ (ag az bj cd c4 an : Int) (b4 : Option Addr) (ap b3 : Nat) (c6 ae ax c2 c8 cb aw : Int) (b1 : Option Addr) (au aq : Nat) (cc : Int), cellsAt bi (blk d1.heap.size) [.int .i64 ag, .int .i64 az, .int .u64 bj, .int .i64 cd, .int .i64 c4, .int .i64 an, .slice b4 ap b3, .int .u64 c6, .int .i64 ae, .int .i64 ax, .int .u64 c2, .int .i64 c8, .int .i64 cb, .int .i64 aw, .slice b1 au aq, .int .u64 cc] 0 ∧
 0 ≤ (af : Int) ∧ (af : Int) < (8 : Int) ∧
 ∃ (a0 a3 ad al am a7 : Int) (a6 : Option Addr) (a9 ab : Nat) (ai a1 a8 ac ak ah aa : Int) (a4 : Option Addr) (a5 a2 : Nat) (aj : Int), cellsAt bi ((blk d6.heap.size).add (Int.toNat af * 16)) [.int .i64 a0, .int .i64 a3, .int .u64 ad, .int .i64 al, .int .i64 am, .int .i64 a7, .slice a6 a9 ab, .int .u64 ai, .int .i64 a1, .int .i64 a8, .int .u64 ac, .int .i64 ak, .int .i64 ah, .int .i64 aa, .slice a4 a5 a2, .int .u64 aj] 0 ∧
 Calls Try.prog 15 #[.agg #[.int .i64 ag, .int .i64 az, .int .u64 bj, .int .i64 cd, .int .i64 c4, .int .i64 an, .slice b4 ap b3, .int .u64 c6, .int .i64 ae, .int .i64 ax, .int .u64 c2, .int .i64 c8, .int .i64 cb, .int .i64 aw, .slice b1 au aq, .int .u64 cc]] bi fun d7 d4 => ∃ (ar b8 ce ci cj bo : Int) (bt : Option Addr) (bv b5 : Nat) (cp ay c1 c3 co cw bn : Int) (bp : Option Addr) (bw bu : Nat) (cg : Int), d7 = .returned (.agg #[.int .i64 ar, .int .i64 b8, .int .u64 ce, .int .i64 ci, .int .i64 cj, .int .i64 bo, .slice bt bv b5, .int .u64 cp, .int .i64 ay, .int .i64 c1, .int .u64 c3, .int .i64 co, .int .i64 cw, .int .i64 bn, .slice bp bw bu, .int .u64 cg]) ∧
 cellsAt d4 ((blk d6.heap.size).add (Int.toNat af * 16)) [.int .i64 a0, .int .i64 a3, .int .u64 ad, .int .i64 al, .int .i64 am, .int .i64 a7, .slice a6 a9 ab, .int .u64 ai, .int .i64 a1, .int .i64 a8, .int .u64 ac, .int .i64 ak, .int .i64 ah, .int .i64 aa, .slice a4 a5 a2, .int .u64 aj] 0 ∧
 Calls Try.prog 15 #[.agg #[.int .i64 a0, .int .i64 a3, .int .u64 ad, .int .i64 al, .int .i64 am, .int .i64 a7, .slice a6 a9 ab, .int .u64 ai, .int .i64 a1, .int .i64 a8, .int .u64 ac, .int .i64 ak, .int .i64 ah, .int .i64 aa, .slice a4 a5 a2, .int .u64 aj]] d4 fun dd da => ∃ (av bx c9 ct cq bb : Int) (bd : Option Addr) (bg be : Nat) (cu b0 bc c5 cl cv bq : Int) (bh : Option Addr) (b7 bm : Nat) (cs : Int), dd = .returned (.agg #[.int .i64 av, .int .i64 bx, .int .u64 c9, .int .i64 ct, .int .i64 cq, .int .i64 bb, .slice bd bg be, .int .u64 cu, .int .i64 b0, .int .i64 bc, .int .u64 c5, .int .i64 cl, .int .i64 cv, .int .i64 bq, .slice bh b7 bm, .int .u64 cs]) ∧
 Calls Try.prog 14 #[.agg #[.int .i64 ar, .int .i64 b8, .int .u64 ce, .int .i64 ci, .int .i64 cj, .int .i64 bo, .slice bt bv b5, .int .u64 cp, .int .i64 ay, .int .i64 c1, .int .u64 c3, .int .i64 co, .int .i64 cw, .int .i64 bn, .slice bp bw bu, .int .u64 cg], .agg #[.int .i64 av, .int .i64 bx, .int .u64 c9, .int .i64 ct, .int .i64 cq, .int .i64 bb, .slice bd bg be, .int .u64 cu, .int .i64 b0, .int .i64 bc, .int .u64 c5, .int .i64 cl, .int .i64 cv, .int .i64 bq, .slice bh b7 bm, .int .u64 cs]] da fun d8 d2 => ∃ (cm : Bool), d8 = .returned (.bool cm) ∧
 bif !cm then (
 R (.bool false) d2) else (
 almL.J1 dg af I2 dh cz cr d6 df R d2))

abbrev almL.J3 (af : Int) (I0 : Nat → List Value → World → Prop) (aj : Nat) (a1 : Option Addr) (ai ah : World) (R : RW) (ab : World) : Prop :=
 Calls Try.prog 12 #[.pointer a1] ab fun ad ac => ∃ (a2 : Option Addr) (a0 a3 : Nat), ad = .returned (.slice a2 a0 a3) ∧
 ∃ (I2 : Nat → List Value → World → Prop) (ag : Nat), I2 ag [.int .i64 0, .int .i64 0] ac ∧ ∀ (a9 : Nat) (a6 : World) (a7 a5 : Int), I2 a9 [.int .i64 a7, .int .i64 a5] a6 →
 bif decide (a5 < 8) then (
 almL.J2 a7 a5 I2 a9 a1 a2 a0 ai ah R a6) else (
 Calls Try.prog 16 #[.pointer a1] a6 fun ae a4 => ∃ (a8 : Bool), ae = .returned (.bool a8) ∧
 bif !(a8 == true) then (
 R (.bool false) a4) else (
 bif a7 != (a0 : Int) then (
 R (.bool false) a4) else (
 ∃ aa, aa < aj ∧ I0 aa [.bool true, .int .i64 (IntKind.i64.wrap (af + 1))] a4)))

abbrev almL.J4 (c1 ae : Int) (I2 : Nat → List Value → World → Prop) (cl : Nat) (cb : Option Addr) (b3 : Nat) (cs cu : World) (R : RW) (ch : World) : Prop :=
 0 ≤ (ae : Int) ∧ (ae : Int) < (8 : Int) ∧
 ∃ (cn : Bool), ch.cell? ((blk cu.heap.size).add (Int.toNat ae * 1)) = some (.bool cn) ∧
 bif cn then (
 thenW (ch.drew) fun c2 =>
 bif decide (c1 ≥ (b3 : Int)) then (
 R (.bool false) c2) else (
 cb.elim False fun ct =>
 0 ≤ (c1 : Int) ∧ (c1 : Int) < (b3 : Int) ∧
 ∃ (af ar bp bw bq ao : Int) (an : Option Addr) (aq b1 : Nat) (bx ag b0 bl bt bv au : Int) (ap : Option Addr) (az av : Nat) (bu : Int), cellsAt c2 (ct.add (Int.toNat c1 * 16)) [.int .i64 af, .int .i64 ar, .int .u64 bp, .int .i64 bw, .int .i64 bq, .int .i64 ao, .slice an aq b1, .int .u64 bx, .int .i64 ag, .int .i64 b0, .int .u64 bl, .int .i64 bt, .int .i64 bv, .int .i64 au, .slice ap az av, .int .u64 bu] 0 ∧
 0 ≤ (ae : Int) ∧ (ae : Int) < (8 : Int) ∧
 ∃ (a0 a6 ac ak ai a4 : Int) (ab : Option Addr) (a8 a7 : Nat) (al a1 a3 ad am ah a5 : Int) (aa : Option Addr) (a2 a9 : Nat) (aj : Int), cellsAt c2 ((blk cs.heap.size).add (Int.toNat ae * 16)) [.int .i64 a0, .int .i64 a6, .int .u64 ac, .int .i64 ak, .int .i64 ai, .int .i64 a4, .slice ab a8 a7, .int .u64 al, .int .i64 a1, .int .i64 a3, .int .u64 ad, .int .i64 am, .int .i64 ah, .int .i64 a5, .slice aa a2 a9, .int .u64 aj] 0 ∧
 Calls Try.prog 15 #[.agg #[.int .i64 af, .int .i64 ar, .int .u64 bp, .int .i64 bw, .int .i64 bq, .int .i64 ao, .slice an aq b1, .int .u64 bx, .int .i64 ag, .int .i64 b0, .int .u64 bl, .int .i64 bt, .int .i64 bv, .int .i64 au, .slice ap az av, .int .u64 bu]] c2 fun cr ci => ∃ (ax bc br c7 cc bo : Int) (bn : Option Addr) (b4 b7 : Nat) (c6 aw bi c0 cf c5 b9 : Int) (bf : Option Addr) (bd bm : Nat) (c8 : Int), cr = .returned (.agg #[.int .i64 ax, .int .i64 bc, .int .u64 br, .int .i64 c7, .int .i64 cc, .int .i64 bo, .slice bn b4 b7, .int .u64 c6, .int .i64 aw, .int .i64 bi, .int .u64 c0, .int .i64 cf, .int .i64 c5, .int .i64 b9, .slice bf bd bm, .int .u64 c8]) ∧
 cellsAt ci ((blk cs.heap.size).add (Int.toNat ae * 16)) [.int .i64 a0, .int .i64 a6, .int .u64 ac, .int .i64 ak, .int .i64 ai, .int .i64 a4, .slice ab a8 a7, .int .u64 al, .int .i64 a1, .int .i64 a3, .int .u64 ad, .int .i64 am, .int .i64 ah, .int .i64 a5, .slice aa a2 a9, .int .u64 aj] 0 ∧
 Calls Try.prog 15 #[.agg #[.int .i64 a0, .int .i64 a6, .int .u64 ac, .int .i64 ak, .int .i64 ai, .int .i64 a4, .slice ab a8 a7, .int .u64 al, .int .i64 a1, .int .i64 a3, .int .u64 ad, .int .i64 am, .int .i64 ah, .int .i64 a5, .slice aa a2 a9, .int .u64 aj]] ci fun co cq => ∃ (ay bh bz ce c3 bb : Int) (b6 : Option Addr) (b8 bg : Nat) (c9 b2 be bs c4 cd ba : Int) (bk : Option Addr) (b5 bj : Nat) (cg : Int), co = .returned (.agg #[.int .i64 ay, .int .i64 bh, .int .u64 bz, .int .i64 ce, .int .i64 c3, .int .i64 bb, .slice b6 b8 bg, .int .u64 c9, .int .i64 b2, .int .i64 be, .int .u64 bs, .int .i64 c4, .int .i64 cd, .int .i64 ba, .slice bk b5 bj, .int .u64 cg]) ∧
 Calls Try.prog 14 #[.agg #[.int .i64 ax, .int .i64 bc, .int .u64 br, .int .i64 c7, .int .i64 cc, .int .i64 bo, .slice bn b4 b7, .int .u64 c6, .int .i64 aw, .int .i64 bi, .int .u64 c0, .int .i64 cf, .int .i64 c5, .int .i64 b9, .slice bf bd bm, .int .u64 c8], .agg #[.int .i64 ay, .int .i64 bh, .int .u64 bz, .int .i64 ce, .int .i64 c3, .int .i64 bb, .slice b6 b8 bg, .int .u64 c9, .int .i64 b2, .int .i64 be, .int .u64 bs, .int .i64 c4, .int .i64 cd, .int .i64 ba, .slice bk b5 bj, .int .u64 cg]] cq fun cp cj => ∃ (ca : Bool), cp = .returned (.bool ca) ∧
 bif !ca then (
 R (.bool false) cj) else (
 ∃ ck, ck < cl ∧ I2 ck [.int .i64 (IntKind.i64.wrap (c1 + 1)), .int .i64 (IntKind.i64.wrap (ae + 1))] cj))) else (
 ∃ cm, cm < cl ∧ I2 cm [.int .i64 c1, .int .i64 (IntKind.i64.wrap (ae + 1))] ch)

abbrev almL.J5 (df ag : Int) (I2 : Nat → List Value → World → Prop) (dh : Nat) (d1 cr : Option Addr) (cv : Nat) (d6 dg : World) (R : RW) (d8 : World) : Prop :=
 Calls Try.prog 13 #[.pointer d1, .int .i64 ag] d8 fun da d0 => ∃ (az bq c5 cn cq c0 : Int) (b9 : Option Addr) (b7 c2 : Nat) (cj an br c8 cf ch bg : Int) (bc : Option Addr) (bl bd : Nat) (cy : Int) (d2 : Bool), da = .returned (.tuple #[.agg #[.int .i64 az, .int .i64 bq, .int .u64 c5, .int .i64 cn, .int .i64 cq, .int .i64 c0, .slice b9 b7 c2, .int .u64 cj, .int .i64 an, .int .i64 br, .int .u64 c8, .int .i64 cf, .int .i64 ch, .int .i64 bg, .slice bc bl bd, .int .u64 cy], .bool d2]) ∧
 thenW (d0.alloc (.cells #[.int .i64 0, .int .i64 0, .int .u64 0, .int .i64 0, .int .i64 0, .int .i64 0, .slice none 0 0, .int .u64 0, .int .i64 0, .int .i64 0, .int .u64 0, .int .i64 0, .int .i64 0, .int .i64 0, .slice none 0 0, .int .u64 0] 38)) fun de =>
 putsK de (blk d0.heap.size) [.int .i64 az, .int .i64 bq, .int .u64 c5, .int .i64 cn, .int .i64 cq, .int .i64 c0, .slice b9 b7 c2, .int .u64 cj, .int .i64 an, .int .i64 br, .int .u64 c8, .int .i64 cf, .int .i64 ch, .int .i64 bg, .slice bc bl bd, .int .u64 cy] 0 fun db =>
 thenW (db.drew) fun bi =>
 0 ≤ (ag : Int) ∧ (ag : Int) < (8 : Int) ∧
 ∃ (d5 : Bool), bi.cell? ((blk dg.heap.size).add (Int.toNat ag * 1)) = some (.bool d5) ∧
 bif !(d2 == d5) then (
 R (.bool false) bi) else (
 ∃ (af av bb cc cb ap : Int) (b3 : Option Addr) (aw aq : Nat) (c3 ae b2 bk c4 ca au : Int) (ay : Option Addr) (ax b4 : Nat) (ce : Int), cellsAt bi (blk d0.heap.size) [.int .i64 af, .int .i64 av, .int .u64 bb, .int .i64 cc, .int .i64 cb, .int .i64 ap, .slice b3 aw aq, .int .u64 c3, .int .i64 ae, .int .i64 b2, .int .u64 bk, .int .i64 c4, .int .i64 ca, .int .i64 au, .slice ay ax b4, .int .u64 ce] 0 ∧
 0 ≤ (ag : Int) ∧ (ag : Int) < (8 : Int) ∧
 ∃ (a0 ab ac ah am a7 : Int) (a2 : Option Addr) (a9 a6 : Nat) (ak a1 a3 ad al ai aa : Int) (a5 : Option Addr) (a4 a8 : Nat) (aj : Int), cellsAt bi ((blk d6.heap.size).add (Int.toNat ag * 16)) [.int .i64 a0, .int .i64 ab, .int .u64 ac, .int .i64 ah, .int .i64 am, .int .i64 a7, .slice a2 a9 a6, .int .u64 ak, .int .i64 a1, .int .i64 a3, .int .u64 ad, .int .i64 al, .int .i64 ai, .int .i64 aa, .slice a5 a4 a8, .int .u64 aj] 0 ∧
 Calls Try.prog 15 #[.agg #[.int .i64 af, .int .i64 av, .int .u64 bb, .int .i64 cc, .int .i64 cb, .int .i64 ap, .slice b3 aw aq, .int .u64 c3, .int .i64 ae, .int .i64 b2, .int .u64 bk, .int .i64 c4, .int .i64 ca, .int .i64 au, .slice ay ax b4, .int .u64 ce]] bi fun d9 d4 => ∃ (ao bt c9 cs cz c1 : Int) (bf : Option Addr) (be bu : Nat) (ct b1 b8 c6 cp ck bv : Int) (b5 : Option Addr) (bz bw : Nat) (cu : Int), d9 = .returned (.agg #[.int .i64 ao, .int .i64 bt, .int .u64 c9, .int .i64 cs, .int .i64 cz, .int .i64 c1, .slice bf be bu, .int .u64 ct, .int .i64 b1, .int .i64 b8, .int .u64 c6, .int .i64 cp, .int .i64 ck, .int .i64 bv, .slice b5 bz bw, .int .u64 cu]) ∧
 cellsAt d4 ((blk d6.heap.size).add (Int.toNat ag * 16)) [.int .i64 a0, .int .i64 ab, .int .u64 ac, .int .i64 ah, .int .i64 am, .int .i64 a7, .slice a2 a9 a6, .int .u64 ak, .int .i64 a1, .int .i64 a3, .int .u64 ad, .int .i64 al, .int .i64 ai, .int .i64 aa, .slice a5 a4 a8, .int .u64 aj] 0 ∧
 Calls Try.prog 15 #[.agg #[.int .i64 a0, .int .i64 ab, .int .u64 ac, .int .i64 ah, .int .i64 am, .int .i64 a7, .slice a2 a9 a6, .int .u64 ak, .int .i64 a1, .int .i64 a3, .int .u64 ad, .int .i64 al, .int .i64 ai, .int .i64 aa, .slice a5 a4 a8, .int .u64 aj]] d4 fun d7 dc => ∃ (b0 b6 c7 cx cm bh : Int) (ba : Option Addr) (bx bo : Nat) (ci ar bp cd cl cg bm : Int) (bn : Option Addr) (bs bj : Nat) (cw : Int), d7 = .returned (.agg #[.int .i64 b0, .int .i64 b6, .int .u64 c7, .int .i64 cx, .int .i64 cm, .int .i64 bh, .slice ba bx bo, .int .u64 ci, .int .i64 ar, .int .i64 bp, .int .u64 cd, .int .i64 cl, .int .i64 cg, .int .i64 bm, .slice bn bs bj, .int .u64 cw]) ∧
 Calls Try.prog 14 #[.agg #[.int .i64 ao, .int .i64 bt, .int .u64 c9, .int .i64 cs, .int .i64 cz, .int .i64 c1, .slice bf be bu, .int .u64 ct, .int .i64 b1, .int .i64 b8, .int .u64 c6, .int .i64 cp, .int .i64 ck, .int .i64 bv, .slice b5 bz bw, .int .u64 cu], .agg #[.int .i64 b0, .int .i64 b6, .int .u64 c7, .int .i64 cx, .int .i64 cm, .int .i64 bh, .slice ba bx bo, .int .u64 ci, .int .i64 ar, .int .i64 bp, .int .u64 cd, .int .i64 cl, .int .i64 cg, .int .i64 bm, .slice bn bs bj, .int .u64 cw]] dc fun dd d3 => ∃ (co : Bool), dd = .returned (.bool co) ∧
 bif !co then (
 R (.bool false) d3) else (
 almL.J4 df ag I2 dh cr cv d6 dg R d3))

abbrev almL.J6 (a9 : Bool) (ah : Int) (I0 : Nat → List Value → World → Prop) (ak : Nat) (a1 : Option Addr) (aj ai : World) (R : RW) (af : World) : Prop :=
 Calls Try.prog 12 #[.pointer a1] af fun ac ae => ∃ (a2 : Option Addr) (a0 a3 : Nat), ac = .returned (.slice a2 a0 a3) ∧
 ∃ (I2 : Nat → List Value → World → Prop) (ag : Nat), I2 ag [.int .i64 0, .int .i64 0] ae ∧ ∀ (ab : Nat) (a6 : World) (a7 a4 : Int), I2 ab [.int .i64 a7, .int .i64 a4] a6 →
 bif decide (a4 < 8) then (
 almL.J5 a7 a4 I2 ab a1 a2 a0 aj ai R a6) else (
 Calls Try.prog 16 #[.pointer a1] a6 fun ad a5 => ∃ (a8 : Bool), ad = .returned (.bool a8) ∧
 bif !(a8 == a9) then (
 R (.bool false) a5) else (
 bif a7 != (a0 : Int) then (
 R (.bool false) a5) else (
 ∃ aa, aa < ak ∧ I0 aa [.bool a9, .int .i64 (IntKind.i64.wrap (ah + 1))] a5)))

abbrev almL.J7 (bf : Int) (ar : Addr) (bd : Bool) (b0 : Int) (I0 : Nat → List Value → World → Prop) (be : Nat) (a5 : Option Addr) (a1 au : World) (R : RW) (a4 : World) : Prop :=
 bif bf == 0 then (
 ∃ (a3 : Int), a4.cell? ((ar.add 0).add 0) = some (.int .i64 a3) ∧
 0 ≤ (a3 : Int) ∧ (a3 : Int) < (8 : Int) ∧
 ∃ (bb : Bool), a4.cell? ((blk au.heap.size).add (Int.toNat a3 * 1)) = some (.bool bb) ∧
 bif !bb then (
 ∃ (a2 : Int), a4.cell? ((ar.add 0).add 0) = some (.int .i64 a2) ∧
 0 ≤ (a2 : Int) ∧ (a2 : Int) < (8 : Int) ∧
 Q06 a4 (((blk au.heap.size).add (Int.toNat a2 * 1)).add 0) ∧
 thenW (a4.setCell (((blk au.heap.size).add (Int.toNat a2 * 1)).add 0) (.bool true)) fun aq =>
 ∃ (a0 : Int), aq.cell? ((ar.add 0).add 0) = some (.int .i64 a0) ∧
 ∃ (a6 a9 ai ap am aa : Int) (ac : Option Addr) (ae ah : Nat) (an a7 a8 aj ak ao ad : Int) (ab : Option Addr) (af ag : Nat) (al : Int), cellsAt aq ar [.int .i64 a6, .int .i64 a9, .int .u64 ai, .int .i64 ap, .int .i64 am, .int .i64 aa, .slice ac ae ah, .int .u64 an, .int .i64 a7, .int .i64 a8, .int .u64 aj, .int .i64 ak, .int .i64 ao, .int .i64 ad, .slice ab af ag, .int .u64 al] 0 ∧
 0 ≤ (a0 : Int) ∧ (a0 : Int) < (8 : Int) ∧
 Q06 aq (((blk a1.heap.size).add (Int.toNat a0 * 16)).add 0) ∧
 thenW (aq.setCell (((blk a1.heap.size).add (Int.toNat a0 * 16)).add 0) (.int .i64 a6)) fun b9 =>
 Q06 b9 (((blk a1.heap.size).add (Int.toNat a0 * 16)).add 1) ∧
 thenW (b9.setCell (((blk a1.heap.size).add (Int.toNat a0 * 16)).add 1) (.int .i64 a9)) fun b7 =>
 Q06 b7 (((blk a1.heap.size).add (Int.toNat a0 * 16)).add 2) ∧
 thenW (b7.setCell (((blk a1.heap.size).add (Int.toNat a0 * 16)).add 2) (.int .u64 ai)) fun aw =>
 Q06 aw (((blk a1.heap.size).add (Int.toNat a0 * 16)).add 3) ∧
 thenW (aw.setCell (((blk a1.heap.size).add (Int.toNat a0 * 16)).add 3) (.int .i64 ap)) fun b1 =>
 Q06 b1 (((blk a1.heap.size).add (Int.toNat a0 * 16)).add 4) ∧
 thenW (b1.setCell (((blk a1.heap.size).add (Int.toNat a0 * 16)).add 4) (.int .i64 am)) fun ax =>
 Q06 ax (((blk a1.heap.size).add (Int.toNat a0 * 16)).add 5) ∧
 thenW (ax.setCell (((blk a1.heap.size).add (Int.toNat a0 * 16)).add 5) (.int .i64 aa)) fun av =>
 Q06 av (((blk a1.heap.size).add (Int.toNat a0 * 16)).add 6) ∧
 thenW (av.setCell (((blk a1.heap.size).add (Int.toNat a0 * 16)).add 6) (.slice ac ae ah)) fun b5 =>
 Q06 b5 (((blk a1.heap.size).add (Int.toNat a0 * 16)).add 7) ∧
 thenW (b5.setCell (((blk a1.heap.size).add (Int.toNat a0 * 16)).add 7) (.int .u64 an)) fun b2 =>
 Q06 b2 (((blk a1.heap.size).add (Int.toNat a0 * 16)).add 8) ∧
 thenW (b2.setCell (((blk a1.heap.size).add (Int.toNat a0 * 16)).add 8) (.int .i64 a7)) fun b4 =>
 Q06 b4 (((blk a1.heap.size).add (Int.toNat a0 * 16)).add 9) ∧
 thenW (b4.setCell (((blk a1.heap.size).add (Int.toNat a0 * 16)).add 9) (.int .i64 a8)) fun b6 =>
 Q06 b6 (((blk a1.heap.size).add (Int.toNat a0 * 16)).add 10) ∧
 thenW (b6.setCell (((blk a1.heap.size).add (Int.toNat a0 * 16)).add 10) (.int .u64 aj)) fun b8 =>
 Q06 b8 (((blk a1.heap.size).add (Int.toNat a0 * 16)).add 11) ∧
 thenW (b8.setCell (((blk a1.heap.size).add (Int.toNat a0 * 16)).add 11) (.int .i64 ak)) fun b3 =>
 Q06 b3 (((blk a1.heap.size).add (Int.toNat a0 * 16)).add 12) ∧
 thenW (b3.setCell (((blk a1.heap.size).add (Int.toNat a0 * 16)).add 12) (.int .i64 ao)) fun ba =>
 Q06 ba (((blk a1.heap.size).add (Int.toNat a0 * 16)).add 13) ∧
 thenW (ba.setCell (((blk a1.heap.size).add (Int.toNat a0 * 16)).add 13) (.int .i64 ad)) fun az =>
 Q06 az (((blk a1.heap.size).add (Int.toNat a0 * 16)).add 14) ∧
 thenW (az.setCell (((blk a1.heap.size).add (Int.toNat a0 * 16)).add 14) (.slice ab af ag)) fun ay =>
 Q06 ay (((blk a1.heap.size).add (Int.toNat a0 * 16)).add 15) ∧
 thenW (ay.setCell (((blk a1.heap.size).add (Int.toNat a0 * 16)).add 15) (.int .u64 al)) fun bc =>
 almL.J3 b0 I0 be a5 a1 au R bc) else (
 almL.J3 b0 I0 be a5 a1 au R a4)) else (
 almL.J6 bd b0 I0 be a5 a1 au R a4)

abbrev almL.J8 (be : Addr) (bk : Bool) (bj : Int) (I0 : Nat → List Value → World → Prop) (bl : Nat) (bc ac : Option Addr) (b9 : Int) (bi bh : World) (R : RW) (bd : World) : Prop :=
 ∃ (a3 ak au b1 aw ao : Int) (am : Option Addr) (ae ai : Nat) (b0 a1 ag aq az b6 a9 : Int) (a8 : Option Addr) (ad ap : Nat) (b7 : Int), cellsAt bd be [.int .i64 a3, .int .i64 ak, .int .u64 au, .int .i64 b1, .int .i64 aw, .int .i64 ao, .slice am ae ai, .int .u64 b0, .int .i64 a1, .int .i64 ag, .int .u64 aq, .int .i64 az, .int .i64 b6, .int .i64 a9, .slice a8 ad ap, .int .u64 b7] 0 ∧
 Calls Try.prog 10 #[.pointer ac, .pointer bc, .int .u64 b9, .agg #[.int .i64 a3, .int .i64 ak, .int .u64 au, .int .i64 b1, .int .i64 aw, .int .i64 ao, .slice am ae ai, .int .u64 b0, .int .i64 a1, .int .i64 ag, .int .u64 aq, .int .i64 az, .int .i64 b6, .int .i64 a9, .slice a8 ad ap, .int .u64 b7]] bd fun bf ba => ∃ (af : Int), bf = .returned (.int .i64 af) ∧
 ∃ (a0 a7 ar b3 ay aj : Int) (a6 : Option Addr) (a4 al : Nat) (ax a2 an av b4 b5 ab : Int) (a5 : Option Addr) (ah aa : Nat) (b2 : Int), cellsAt ba be [.int .i64 a0, .int .i64 a7, .int .u64 ar, .int .i64 b3, .int .i64 ay, .int .i64 aj, .slice a6 a4 al, .int .u64 ax, .int .i64 a2, .int .i64 an, .int .u64 av, .int .i64 b4, .int .i64 b5, .int .i64 ab, .slice a5 ah aa, .int .u64 b2] 0 ∧
 Calls Try.prog 11 #[.pointer bc, .int .u64 b9, .agg #[.int .i64 a0, .int .i64 a7, .int .u64 ar, .int .i64 b3, .int .i64 ay, .int .i64 aj, .slice a6 a4 al, .int .u64 ax, .int .i64 a2, .int .i64 an, .int .u64 av, .int .i64 b4, .int .i64 b5, .int .i64 ab, .slice a5 ah aa, .int .u64 b2]] ba fun bg bb => ∃ (b8 : Int), bg = .returned (.int .i64 b8) ∧
 bif af != b8 then (
 R (.bool false) bb) else (
 almL.J7 af be bk bj I0 bl ac bi bh R bb)

abbrev almL.J9 (a0 : Addr) (be : Bool) (bc : Int) (I0 : Nat → List Value → World → Prop) (bj : Nat) (ay a2 : Option Addr) (bb b2 : Int) (bf bd : World) (R : RW) (b3 : World) : Prop :=
 ∃ (a3 ae ak au ap ac : Int) (a8 : Option Addr) (aa ab : Nat) (av : Int), cellsAt b3 (a0.add 8) [.int .i64 a3, .int .i64 ae, .int .u64 ak, .int .i64 au, .int .i64 ap, .int .i64 ac, .slice a8 aa ab, .int .u64 av] 0 ∧
 Calls Try.prog 9 #[.pointer ay, .int .u64 bb, .agg #[.int .i64 a3, .int .i64 ae, .int .u64 ak, .int .i64 au, .int .i64 ap, .int .i64 ac, .slice a8 aa ab, .int .u64 av]] b3 fun bg b1 => ∃ (a5 af an b0 ax ai : Int) (al : Option Addr) (ah ag : Nat) (az am : Int), bg = .returned (.tuple #[.agg #[.int .i64 a5, .int .i64 af, .int .u64 an, .int .i64 b0, .int .i64 ax, .int .i64 ai, .slice al ah ag, .int .u64 az], .int .i64 am]) ∧
 thenW (b1.alloc (.cells #[.int .i64 0, .int .i64 0, .int .u64 0, .int .i64 0, .int .i64 0, .int .i64 0, .slice none 0 0, .int .u64 0] 36)) fun bh =>
 putsK bh (blk b1.heap.size) [.int .i64 a5, .int .i64 af, .int .u64 an, .int .i64 b0, .int .i64 ax, .int .i64 ai, .slice al ah ag, .int .u64 az] 0 fun aq =>
 bif am == 0 then (
 ∃ (a1 ad aj ao ar a6 : Int) (a7 : Option Addr) (a4 a9 : Nat) (aw : Int), cellsAt aq (blk b1.heap.size) [.int .i64 a1, .int .i64 ad, .int .u64 aj, .int .i64 ao, .int .i64 ar, .int .i64 a6, .slice a7 a4 a9, .int .u64 aw] 0 ∧
 Q06 aq ((a0.add 8).add 0) ∧
 thenW (aq.setCell ((a0.add 8).add 0) (.int .i64 a1)) fun b4 =>
 Q06 b4 ((a0.add 8).add 1) ∧
 thenW (b4.setCell ((a0.add 8).add 1) (.int .i64 ad)) fun b9 =>
 Q06 b9 ((a0.add 8).add 2) ∧
 thenW (b9.setCell ((a0.add 8).add 2) (.int .u64 aj)) fun b7 =>
 Q06 b7 ((a0.add 8).add 3) ∧
 thenW (b7.setCell ((a0.add 8).add 3) (.int .i64 ao)) fun b6 =>
 Q06 b6 ((a0.add 8).add 4) ∧
 thenW (b6.setCell ((a0.add 8).add 4) (.int .i64 ar)) fun ba =>
 Q06 ba ((a0.add 8).add 5) ∧
 thenW (ba.setCell ((a0.add 8).add 5) (.int .i64 a6)) fun b5 =>
 Q06 b5 ((a0.add 8).add 6) ∧
 thenW (b5.setCell ((a0.add 8).add 6) (.slice a7 a4 a9)) fun b8 =>
 Q06 b8 ((a0.add 8).add 7) ∧
 thenW (b8.setCell ((a0.add 8).add 7) (.int .u64 aw)) fun bi =>
 almL.J8 a0 be bc I0 bj ay a2 b2 bf bd R bi) else (
 almL.J8 a0 be bc I0 bj ay a2 b2 bf bd R aq)

abbrev almL.J10 (a0 : Addr) (bh : Bool) (bc : Int) (I0 : Nat → List Value → World → Prop) (bj : Nat) (az a3 : Option Addr) (am b1 : Int) (be bd : World) (R : RW) (b6 : World) : Prop :=
 ∃ (a2 ae al aq ap ac : Int) (a6 : Option Addr) (a5 aa : Nat) (ao : Int), cellsAt b6 (a0.add 0) [.int .i64 a2, .int .i64 ae, .int .u64 al, .int .i64 aq, .int .i64 ap, .int .i64 ac, .slice a6 a5 aa, .int .u64 ao] 0 ∧
 Calls Try.prog 9 #[.pointer az, .int .u64 am, .agg #[.int .i64 a2, .int .i64 ae, .int .u64 al, .int .i64 aq, .int .i64 ap, .int .i64 ac, .slice a6 a5 aa, .int .u64 ao]] b6 fun bi b3 => ∃ (ab ai ar b0 ay ah : Int) (ag : Option Addr) (ak aj : Nat) (b2 an : Int), bi = .returned (.tuple #[.agg #[.int .i64 ab, .int .i64 ai, .int .u64 ar, .int .i64 b0, .int .i64 ay, .int .i64 ah, .slice ag ak aj, .int .u64 b2], .int .i64 an]) ∧
 thenW (b3.alloc (.cells #[.int .i64 0, .int .i64 0, .int .u64 0, .int .i64 0, .int .i64 0, .int .i64 0, .slice none 0 0, .int .u64 0] 36)) fun bg =>
 putsK bg (blk b3.heap.size) [.int .i64 ab, .int .i64 ai, .int .u64 ar, .int .i64 b0, .int .i64 ay, .int .i64 ah, .slice ag ak aj, .int .u64 b2] 0 fun au =>
 bif an == 0 then (
 ∃ (a1 a7 af aw av a8 : Int) (a9 : Option Addr) (a4 ad : Nat) (ax : Int), cellsAt au (blk b3.heap.size) [.int .i64 a1, .int .i64 a7, .int .u64 af, .int .i64 aw, .int .i64 av, .int .i64 a8, .slice a9 a4 ad, .int .u64 ax] 0 ∧
 Q06 au ((a0.add 0).add 0) ∧
 thenW (au.setCell ((a0.add 0).add 0) (.int .i64 a1)) fun b4 =>
 Q06 b4 ((a0.add 0).add 1) ∧
 thenW (b4.setCell ((a0.add 0).add 1) (.int .i64 a7)) fun bb =>
 Q06 bb ((a0.add 0).add 2) ∧
 thenW (bb.setCell ((a0.add 0).add 2) (.int .u64 af)) fun b8 =>
 Q06 b8 ((a0.add 0).add 3) ∧
 thenW (b8.setCell ((a0.add 0).add 3) (.int .i64 aw)) fun b9 =>
 Q06 b9 ((a0.add 0).add 4) ∧
 thenW (b9.setCell ((a0.add 0).add 4) (.int .i64 av)) fun b5 =>
 Q06 b5 ((a0.add 0).add 5) ∧
 thenW (b5.setCell ((a0.add 0).add 5) (.int .i64 a8)) fun b7 =>
 Q06 b7 ((a0.add 0).add 6) ∧
 thenW (b7.setCell ((a0.add 0).add 6) (.slice a9 a4 ad)) fun ba =>
 Q06 ba ((a0.add 0).add 7) ∧
 thenW (ba.setCell ((a0.add 0).add 7) (.int .u64 ax)) fun bf =>
 almL.J9 a0 bh bc I0 bj az a3 am b1 be bd R bf) else (
 almL.J9 a0 bh bc I0 bj az a3 am b1 be bd R au)

abbrev almL.J11 (a0 : Addr) (bb : Bool) (bc : Int) (I0 : Nat → List Value → World → Prop) (bj : Nat) (b4 a7 : Option Addr) (be b6 : Int) (bi bh : World) (R : RW) (b9 : World) : Prop :=
 ∃ (a1 ad al aq av a5 : Int) (aa : Option Addr) (ac a4 : Nat) (ao : Int), cellsAt b9 (a0.add 8) [.int .i64 a1, .int .i64 ad, .int .u64 al, .int .i64 aq, .int .i64 av, .int .i64 a5, .slice aa ac a4, .int .u64 ao] 0 ∧
 Calls Try.prog 9 #[.pointer b4, .int .u64 be, .agg #[.int .i64 a1, .int .i64 ad, .int .u64 al, .int .i64 aq, .int .i64 av, .int .i64 a5, .slice aa ac a4, .int .u64 ao]] b9 fun bf ax => ∃ (a9 aj ap az b0 af : Int) (ah : Option Addr) (ag ak : Nat) (ay au : Int), bf = .returned (.tuple #[.agg #[.int .i64 a9, .int .i64 aj, .int .u64 ap, .int .i64 az, .int .i64 b0, .int .i64 af, .slice ah ag ak, .int .u64 ay], .int .i64 au]) ∧
 thenW (ax.alloc (.cells #[.int .i64 0, .int .i64 0, .int .u64 0, .int .i64 0, .int .i64 0, .int .i64 0, .slice none 0 0, .int .u64 0] 36)) fun bg =>
 putsK bg (blk ax.heap.size) [.int .i64 a9, .int .i64 aj, .int .u64 ap, .int .i64 az, .int .i64 b0, .int .i64 af, .slice ah ag ak, .int .u64 ay] 0 fun am =>
 bif au == 0 then (
 ∃ (a2 a8 ai ar an a3 : Int) (ab : Option Addr) (a6 ae : Nat) (aw : Int), cellsAt am (blk ax.heap.size) [.int .i64 a2, .int .i64 a8, .int .u64 ai, .int .i64 ar, .int .i64 an, .int .i64 a3, .slice ab a6 ae, .int .u64 aw] 0 ∧
 Q06 am ((a0.add 8).add 0) ∧
 thenW (am.setCell ((a0.add 8).add 0) (.int .i64 a2)) fun b2 =>
 Q06 b2 ((a0.add 8).add 1) ∧
 thenW (b2.setCell ((a0.add 8).add 1) (.int .i64 a8)) fun b3 =>
 Q06 b3 ((a0.add 8).add 2) ∧
 thenW (b3.setCell ((a0.add 8).add 2) (.int .u64 ai)) fun b1 =>
 Q06 b1 ((a0.add 8).add 3) ∧
 thenW (b1.setCell ((a0.add 8).add 3) (.int .i64 ar)) fun b5 =>
 Q06 b5 ((a0.add 8).add 4) ∧
 thenW (b5.setCell ((a0.add 8).add 4) (.int .i64 an)) fun ba =>
 Q06 ba ((a0.add 8).add 5) ∧
 thenW (ba.setCell ((a0.add 8).add 5) (.int .i64 a3)) fun b7 =>
 Q06 b7 ((a0.add 8).add 6) ∧
 thenW (b7.setCell ((a0.add 8).add 6) (.slice ab a6 ae)) fun b8 =>
 Q06 b8 ((a0.add 8).add 7) ∧
 thenW (b8.setCell ((a0.add 8).add 7) (.int .u64 aw)) fun bd =>
 almL.J8 a0 bb bc I0 bj b4 a7 b6 bi bh R bd) else (
 almL.J8 a0 bb bc I0 bj b4 a7 b6 bi bh R am)

abbrev almL.J12 (bj : Bool) (a0 : Addr) (b9 : Bool) (ba : Int) (I0 : Nat → List Value → World → Prop) (bk : Nat) (b3 a1 : Option Addr) (ax az : Int) (bg bf : World) (R : RW) (ay : World) : Prop :=
 bif bj then (
 ∃ (a2 aa ah ar an a5 : Int) (ac : Option Addr) (a4 ad : Nat) (ap : Int), cellsAt ay (a0.add 0) [.int .i64 a2, .int .i64 aa, .int .u64 ah, .int .i64 ar, .int .i64 an, .int .i64 a5, .slice ac a4 ad, .int .u64 ap] 0 ∧
 Calls Try.prog 9 #[.pointer b3, .int .u64 ax, .agg #[.int .i64 a2, .int .i64 aa, .int .u64 ah, .int .i64 ar, .int .i64 an, .int .i64 a5, .slice ac a4 ad, .int .u64 ap]] ay fun bh b0 => ∃ (a7 aj av b2 b4 ak : Int) (af : Option Addr) (ai al : Nat) (b1 aq : Int), bh = .returned (.tuple #[.agg #[.int .i64 a7, .int .i64 aj, .int .u64 av, .int .i64 b2, .int .i64 b4, .int .i64 ak, .slice af ai al, .int .u64 b1], .int .i64 aq]) ∧
 thenW (b0.alloc (.cells #[.int .i64 0, .int .i64 0, .int .u64 0, .int .i64 0, .int .i64 0, .int .i64 0, .slice none 0 0, .int .u64 0] 36)) fun bi =>
 putsK bi (blk b0.heap.size) [.int .i64 a7, .int .i64 aj, .int .u64 av, .int .i64 b2, .int .i64 b4, .int .i64 ak, .slice af ai al, .int .u64 b1] 0 fun am =>
 bif aq == 0 then (
 ∃ (a3 ae ag au ao a6 : Int) (a9 : Option Addr) (ab a8 : Nat) (aw : Int), cellsAt am (blk b0.heap.size) [.int .i64 a3, .int .i64 ae, .int .u64 ag, .int .i64 au, .int .i64 ao, .int .i64 a6, .slice a9 ab a8, .int .u64 aw] 0 ∧
 Q06 am ((a0.add 0).add 0) ∧
 thenW (am.setCell ((a0.add 0).add 0) (.int .i64 a3)) fun b5 =>
 Q06 b5 ((a0.add 0).add 1) ∧
 thenW (b5.setCell ((a0.add 0).add 1) (.int .i64 ae)) fun bc =>
 Q06 bc ((a0.add 0).add 2) ∧
 thenW (bc.setCell ((a0.add 0).add 2) (.int .u64 ag)) fun bd =>
 Q06 bd ((a0.add 0).add 3) ∧
 thenW (bd.setCell ((a0.add 0).add 3) (.int .i64 au)) fun b8 =>
 Q06 b8 ((a0.add 0).add 4) ∧
 thenW (b8.setCell ((a0.add 0).add 4) (.int .i64 ao)) fun b7 =>
 Q06 b7 ((a0.add 0).add 5) ∧
 thenW (b7.setCell ((a0.add 0).add 5) (.int .i64 a6)) fun bb =>
 Q06 bb ((a0.add 0).add 6) ∧
 thenW (bb.setCell ((a0.add 0).add 6) (.slice a9 ab a8)) fun b6 =>
 Q06 b6 ((a0.add 0).add 7) ∧
 thenW (b6.setCell ((a0.add 0).add 7) (.int .u64 aw)) fun be =>
 almL.J11 a0 b9 ba I0 bk b3 a1 ax az bg bf R be) else (
 almL.J11 a0 b9 ba I0 bk b3 a1 ax az bg bf R am)) else (
 almL.J8 a0 b9 ba I0 bk b3 a1 az bg bf R ay)

abbrev almL.J13 (aa : Addr) (ab : Bool) (a1 : Int) (I0 : Nat → List Value → World → Prop) (ae : Option Addr) (ad ac : Nat) (a5 a0 : Option Addr) (a3 a4 : Int) (a7 a9 : World) (R : RW) (a2 : World) : Prop :=
 bif decide (a1 ≥ (ad : Int)) then (
 almL.J10 aa ab a1 I0 ac a5 a0 a3 a4 a7 a9 R a2) else (
 ae.elim False fun a8 =>
 0 ≤ (a1 : Int) ∧ (a1 : Int) < (ad : Int) ∧
 ∃ (a6 : Int), a2.cell? (a8.add (Int.toNat a1 * 1)) = some (.int .i64 a6) ∧
 almL.J12 (a6 != 0) aa ab a1 I0 ac a5 a0 a3 a4 a7 a9 R a2)

abbrev almL.J14 (az : Bool) (ah : Int) (I0 : Nat → List Value → World → Prop) (b0 : Option Addr) (b1 : Nat) (b4 : Option Addr) (b2 b3 : Nat) (au am : Option Addr) (ao ap : Int) (ay ax : World) (R : RW) (aw : World) : Prop :=
 thenW (aw.drew) fun al =>
 b0.elim False fun aq =>
 0 ≤ (ah : Int) ∧ (ah : Int) < (b1 : Int) ∧
 ∃ (a0 a9 ad aj ai a5 : Int) (a3 : Option Addr) (ab a7 : Nat) (ae : Int), cellsAt al ((aq.add (Int.toNat ah * 16)).add 0) [.int .i64 a0, .int .i64 a9, .int .u64 ad, .int .i64 aj, .int .i64 ai, .int .i64 a5, .slice a3 ab a7, .int .u64 ae] 0 ∧
 b0.elim False fun ar =>
 0 ≤ (ah : Int) ∧ (ah : Int) < (b1 : Int) ∧
 ∃ (a1 a6 ac ag ak aa : Int) (a8 : Option Addr) (a2 a4 : Nat) (af : Int), cellsAt al ((ar.add (Int.toNat ah * 16)).add 8) [.int .i64 a1, .int .i64 a6, .int .u64 ac, .int .i64 ag, .int .i64 ak, .int .i64 aa, .slice a8 a2 a4, .int .u64 af] 0 ∧
 thenW (al.alloc (.cells #[.int .i64 0, .int .i64 0, .int .u64 0, .int .i64 0, .int .i64 0, .int .i64 0, .slice none 0 0, .int .u64 0, .int .i64 0, .int .i64 0, .int .u64 0, .int .i64 0, .int .i64 0, .int .i64 0, .slice none 0 0, .int .u64 0] 38)) fun an =>
 cellsAt an ((ar.add (Int.toNat ah * 16)).add 8) [.int .i64 a1, .int .i64 a6, .int .u64 ac, .int .i64 ag, .int .i64 ak, .int .i64 aa, .slice a8 a2 a4, .int .u64 af] 0 ∧
 cellsAt an ((aq.add (Int.toNat ah * 16)).add 0) [.int .i64 a0, .int .i64 a9, .int .u64 ad, .int .i64 aj, .int .i64 ai, .int .i64 a5, .slice a3 ab a7, .int .u64 ae] 0 ∧
 putsK an (blk al.heap.size) [.int .i64 a0, .int .i64 a9, .int .u64 ad, .int .i64 aj, .int .i64 ai, .int .i64 a5, .slice a3 ab a7, .int .u64 ae, .int .i64 a1, .int .i64 a6, .int .u64 ac, .int .i64 ag, .int .i64 ak, .int .i64 aa, .slice a8 a2 a4, .int .u64 af] 0 fun av =>
 almL.J13 (blk al.heap.size) az ah I0 b4 b2 b3 au am ao ap ay ax R av

abbrev almL.J15 (b6 : Bool) (ao : Int) (I0 : Nat → List Value → World → Prop) (aw : Option Addr) (az : Nat) (b9 : Option Addr) (b5 b8 : Nat) (au ac : Option Addr) (ap aq : Int) (ax av : World) (R : RW) (ay : World) : Prop :=
 thenW (ay.drew) fun an =>
 aw.elim False fun b7 =>
 0 ≤ (ao : Int) ∧ (ao : Int) < (az : Int) ∧
 ∃ (a1 a8 ae ak am ab : Int) (a7 : Option Addr) (aa a2 : Nat) (aj : Int), cellsAt an ((b7.add (Int.toNat ao * 16)).add 0) [.int .i64 a1, .int .i64 a8, .int .u64 ae, .int .i64 ak, .int .i64 am, .int .i64 ab, .slice a7 aa a2, .int .u64 aj] 0 ∧
 aw.elim False fun b4 =>
 0 ≤ (ao : Int) ∧ (ao : Int) < (az : Int) ∧
 ∃ (a0 a5 af al ah a6 : Int) (a9 : Option Addr) (a3 a4 : Nat) (ai : Int), cellsAt an ((b4.add (Int.toNat ao * 16)).add 8) [.int .i64 a0, .int .i64 a5, .int .u64 af, .int .i64 al, .int .i64 ah, .int .i64 a6, .slice a9 a3 a4, .int .u64 ai] 0 ∧
 thenW (an.alloc (.cells #[.int .i64 a1, .int .i64 a8, .int .u64 ae, .int .i64 ak, .int .i64 am, .int .i64 ab, .slice a7 aa a2, .int .u64 aj, .int .i64 a0, .int .i64 a5, .int .u64 af, .int .i64 al, .int .i64 ah, .int .i64 a6, .slice a9 a3 a4, .int .u64 ai] 36)) fun b1 =>
 Calls Try.prog 8 #[.slice (some (blk an.heap.size)) 2 2] b1 fun b3 ar => ∃ (ag : Bool), b3 = .returned (.bool ag) ∧
 bif !ag then (
 Calls Try.prog 4 #[] ar fun b0 b2 => ∃ (ad : Bool), b0 = .returned (.bool ad) ∧
 R (.bool ad) b2) else (
 almL.J14 b6 ao I0 aw az b9 b5 b8 au ac ap aq ax av R ar)

abbrev almL.J16 (bp : Option Addr) (bl : Nat) (bq : Option Addr) (bo : Nat) (R : RW) (bd : World) : Prop :=
 Calls Try.prog 5 #[.slice none 0 0] bd fun bj bf => ∃ (au : Option Addr), bj = .returned (.pointer au) ∧
 Calls Try.prog 6 #[.pointer au] bf fun bg bi => ∃ (aw ar : Int), bg = .returned (.tuple #[.int .u64 aw, .int .u64 ar]) ∧
 Calls Try.prog 7 #[] bi fun bk bb => ∃ (a3 : Option Addr), bk = .returned (.pointer a3) ∧
 thenW (bb.alloc (.cells (List.toArray ([.int .i64 0, .int .i64 0, .int .u64 0, .int .i64 0, .int .i64 0, .int .i64 0, .slice none 0 0, .int .u64 0, .int .i64 0, .int .i64 0, .int .u64 0, .int .i64 0, .int .i64 0, .int .i64 0, .slice none 0 0, .int .u64 0, .int .i64 0, .int .i64 0, .int .u64 0, .int .i64 0, .int .i64 0, .int .i64 0, .slice none 0 0, .int .u64 0, .int .i64 0, .int .i64 0, .int .u64 0, .int .i64 0, .int .i64 0, .int .i64 0, .slice none 0 0, .int .u64 0, .int .i64 0, .int .i64 0, .int .u64 0, .int .i64 0, .int .i64 0, .int .i64 0, .slice none 0 0, .int .u64 0, .int .i64 0, .int .i64 0, .int .u64 0, .int .i64 0, .int .i64 0, .int .i64 0, .slice none 0 0, .int .u64 0, .int .i64 0, .int .i64 0, .int .u64 0, .int .i64 0, .int .i64 0, .int .i64 0, .slice none 0 0, .int .u64 0, .int .i64 0, .int .i64 0, .int .u64 0, .int .i64 0, .int .i64 0, .int .i64 0, .slice none 0 0, .int .u64 0, .int .i64 0, .int .i64 0, .int .u64 0, .int .i64 0, .int .i64 0, .int .i64 0, .slice none 0 0, .int .u64 0, .int .i64 0, .int .i64 0, .int .u64 0, .int .i64 0, .int .i64 0, .int .i64 0, .slice none 0 0, .int .u64 0, .int .i64 0, .int .i64 0, .int .u64 0, .int .i64 0, .int .i64 0, .int .i64 0, .slice none 0 0, .int .u64 0, .int .i64 0, .int .i64 0, .int .u64 0, .int .i64 0, .int .i64 0, .int .i64 0, .slice none 0 0, .int .u64 0, .int .i64 0, .int .i64 0, .int .u64 0, .int .i64 0, .int .i64 0, .int .i64 0, .slice none 0 0, .int .u64 0, .int .i64 0, .int .i64 0, .int .u64 0, .int .i64 0, .int .i64 0, .int .i64 0, .slice none 0 0, .int .u64 0, .int .i64 0, .int .i64 0, .int .u64 0, .int .i64 0, .int .i64 0, .int .i64 0, .slice none 0 0, .int .u64 0, .int .i64 0, .int .i64 0, .int .u64 0, .int .i64 0, .int .i64 0, .int .i64 0, .slice none 0 0, .int .u64 0])) 39)) fun ba =>
 thenW (ba.alloc (.cells #[.bool false, .bool false, .bool false, .bool false, .bool false, .bool false, .bool false, .bool false] 40)) fun bh =>
 ∃ (I0 : Nat → List Value → World → Prop) (bn : Nat), I0 bn [.bool false, .int .i64 0] bh ∧ ∀ (bm : Nat) (b4 : World) (bc : Bool) (be : Int), I0 bm [.bool bc, .int .i64 be] b4 →
 bif decide (be < (bl : Int)) then (
 almL.J15 bc be I0 bp bl bq bo bm au a3 aw ar bb ba R b4) else (
 Calls Try.prog 13 #[.pointer none, .int .i64 0] b4 fun b2 az => ∃ (a1 a6 ag aj am a5 : Int) (a4 : Option Addr) (ad aa : Nat) (ap a2 a9 ae ai ak a7 : Int) (a8 : Option Addr) (ab ac : Nat) (al : Int) (av : Bool), b2 = .returned (.tuple #[.agg #[.int .i64 a1, .int .i64 a6, .int .u64 ag, .int .i64 aj, .int .i64 am, .int .i64 a5, .slice a4 ad aa, .int .u64 ap, .int .i64 a2, .int .i64 a9, .int .u64 ae, .int .i64 ai, .int .i64 ak, .int .i64 a7, .slice a8 ab ac, .int .u64 al], .bool av]) ∧
 thenW (az.alloc (.cells #[.int .i64 0, .int .i64 0, .int .u64 0, .int .i64 0, .int .i64 0, .int .i64 0, .slice none 0 0, .int .u64 0, .int .i64 0, .int .i64 0, .int .u64 0, .int .i64 0, .int .i64 0, .int .i64 0, .slice none 0 0, .int .u64 0] 38)) fun b5 =>
 putsK b5 (blk az.heap.size) [.int .i64 a1, .int .i64 a6, .int .u64 ag, .int .i64 aj, .int .i64 am, .int .i64 a5, .slice a4 ad aa, .int .u64 ap, .int .i64 a2, .int .i64 a9, .int .u64 ae, .int .i64 ai, .int .i64 ak, .int .i64 a7, .slice a8 ab ac, .int .u64 al] 0 fun b6 =>
 Calls Try.prog 10 #[.pointer none, .pointer au, .int .u64 ar, .agg #[.int .i64 0, .int .i64 0, .int .u64 0, .int .i64 0, .int .i64 0, .int .i64 0, .slice none 0 0, .int .u64 0, .int .i64 0, .int .i64 0, .int .u64 0, .int .i64 0, .int .i64 0, .int .i64 0, .slice none 0 0, .int .u64 0]] b6 fun b9 b0 => ∃ (af : Int), b9 = .returned (.int .i64 af) ∧
 bif af == 23 then (
 Calls Try.prog 16 #[.pointer none] b0 fun b1 ay => ∃ (ax : Bool), b1 = .returned (.bool ax) ∧
 bif !ax then (
 Calls Try.prog 12 #[.pointer none] ay fun b3 aq => ∃ (ao : Option Addr) (a0 an : Nat), b3 = .returned (.slice ao a0 an) ∧
 bif (a0 : Int) == 0 then (
 bif !av then (
 Calls Try.prog 4 #[] aq fun b7 b8 => ∃ (ah : Bool), b7 = .returned (.bool ah) ∧
 R (.bool ah) b8) else (
 R (.bool false) aq)) else (
 R (.bool false) aq)) else (
 R (.bool false) ay)) else (
 R (.bool false) b0))

def almL.M (a7 : Option Addr) (a4 a8 : Nat) (a2 : Option Addr) (a1 a3 : Nat) (R : RW) (w : World) : Prop :=
 bif decide ((a4 : Int) > 20) then (
 Calls Try.prog 4 #[] w fun a6 a5 => ∃ (a0 : Bool), a6 = .returned (.bool a0) ∧
 R (.bool a0) a5) else (
 almL.J16 a7 a4 a2 a1 R w)

theorem almL.ok (a5 : Option Addr) (a3 a4 : Nat) (a1 : Option Addr) (a0 a2 : Nat) {R : RW} {w : World} (h : almL.M a5 a3 a4 a1 a0 a2 R w) : Calls Try.prog 3 #[.slice a5 a3 a4, .slice a1 a0 a2] w fun e w' => ∃ v, e = .returned v ∧ R v w' :=
  Q0m follows (H := [(0, [0, 1, 5, 6, 7, 8, 9, 10], [(11, (.one .bool)), (12, (.one (.int .i64)))]), (2, [0, 1, 5, 6, 7, 8, 9, 10, 11, 12, 20], [(19, (.one (.int .i64))), (21, (.one (.int .i64)))])]) (args := [.slice a5 a3 a4, .slice a1 a0 a2]) (cast (by kernel_rfl) h)
set_option maxRecDepth 20000
set_option maxHeartbeats 4000000
section
variable {W w w' w0 w27 w28 : World} {o o' : Own} {k j q r n : Nat} {K : Nat → Prop} {S : OS} {al wl : AL}
structure AI (W : World) (k j q r : Nat) (S : OS) (n : Nat) (al wl : AL) (w : World) (o : Own) : Prop where
  st : Step no W (fun _ => none) w o
  p : POrc w o k S
  inv : OInv S
  len : S.used.length ≤ n
  alm : Alm w o j al
  wb : ∃ ws : List PP, Blk w q 39 (PP.Cs ws) ∧ ws.length = 8 ∧ (∀ x ∈ ws, x.ok w o) ∧ ∀ (i : Nat) (x : PP), ws[i]? = some x → x.p = atK wl i
  wo : o q = some q
  hb : Blk w r 40 (hasL wl)
  ho : o r = some r
  fin : Fine al
  fiw : Fine wl
structure Apart4 (W : World) (k j q r : Nat) : Prop where
  k0 : W.heap.size ≤ k
  j0 : W.heap.size ≤ j
  q0 : W.heap.size ≤ q
  r0 : W.heap.size ≤ r
  kj : k ≠ j
  kq : k ≠ q
  kr : k ≠ r
  jq : j ≠ q
  jr : j ≠ r
  qr : q ≠ r
theorem AI.step (h : AI W k j q r S n al wl w o) (s : Step K w o w' o') (hk : ∀ i, K i → i < w.heap.size → W.heap.size ≤ i ∧ i ≠ k ∧ i ≠ j ∧ i ≠ q ∧ i ≠ r) : AI W k j q r S n al wl w' o' := by
  obtain ⟨ws, w1, w2, w3, w4⟩ := h.wb
  have lq := w1.lt
  have lr := h.hb.lt
  have lk := h.p.lt
  have lj := h.alm.lt
  exact ⟨h.st.trans' (s.mono (K1 := fun i => K i ∧ i < w.heap.size) fun i hi hl => ⟨hi, hl⟩) fun i hi => .inr (hk i hi.1 hi.2).1, h.p.step s fun hi => (hk k hi lk).2.1 rfl, h.inv, h.len, h.alm.step s fun hi => (hk j hi lj).2.2.1 rfl,
    ⟨ws, s.blk w1 h.wo fun hi => (hk q hi lq).2.2.2.1 rfl, w2, fun x hx => (w3 x hx).step s, w4⟩, (s.own lq).trans h.wo, s.blk h.hb h.ho fun hi => (hk r hi lr).2.2.2.2 rfl, (s.own lr).trans h.ho, h.fin, h.fiw⟩
theorem AI.step0 (h : AI W k j q r S n al wl w o) (s : Step no w o w' o') : AI W k j q r S n al wl w' o' := h.step s fun i hi => hi.elim
theorem AI.more {m : Nat} (h : AI W k j q r S n al wl w o) (hm : n ≤ m) : AI W k j q r S m al wl w o := ⟨h.st, h.p, h.inv, Nat.le_trans h.len hm, h.alm, h.wb, h.wo, h.hb, h.ho, h.fin, h.fiw⟩
theorem Q1g {t : TypeId} {vs u : List Value} {Φ : World → Prop} (e : w = w0.alloc (.cells u.toArray t)) (hl : vs.length = u.length) (h : ∀ w', Ext no w0 w' → Blk w' w0.heap.size t vs → Φ w') : putsK w (blk w0.heap.size) vs 0 Φ := by
  have X : Ext no w0 w := (Ext.refl _ _).x_alloc e
  have hb : Blk w w0.heap.size t u := Blk.of_new e
  have hz : (blk w0.heap.size) = (blk w0.heap.size).add 0 := (add_blk _ _).symm
  rw [hz]
  refine Q0H (k := 0) (j := 0) hb (by omega) fun w' X' hb' => h w' (X.x_puts X' (.inr (Nat.le_refl _))) ?_
  have := Q0P (vs := vs) (u := u) (cs := []) hl
  rw [List.append_nil, List.append_nil] at this
  rw [this] at hb'
  exact hb'
theorem Q1k {t : TypeId} {vs : List Value} (hb : Blk w q t vs) : cellsAt w (blk q) vs 0 := by
  have := Q14 (k := 0) hb vs 0 fun n v hv => by simpa using hv
  rwa [add_blk] at this
theorem Q2E {t : Nat} (h : Blk w r 40 (hasL wl)) (ht : t < 8) : w.cell? ((blk r).add (Int.toNat (t : Int) * 1)) = some (.bool (hasK wl t)) :=
  h.celli t (by rw [Int.toNat_natCast, Nat.mul_one, add_blk]) (Q4n ht)
theorem Q1u {ps : List PP} {ad : Addr} {t : Nat} {x : PP} (h : RowAt w (some ad) (PP.Cs ps)) (hx : ps[t]? = some x) : cellsAt w (ad.add (Int.toNat (t : Int) * 16)) x.C 0 := by
  rw [Int.toNat_natCast]
  exact RowAt.floads PP.len h hx
theorem back_spec' (p : PP) : Calls Try.prog 15 #[p.v] w (Ret p.v fun w' => Ext no w w') := Q3m
theorem same_spec' {p y : PP} (hp : p.ok w o) (hy : y.ok w o) (l1 : p.x.e.body.length < 1000000) (l2 : p.y.e.body.length < 1000000) : Calls Try.prog 14 #[p.v, y.v] w (Ret (.bool (decide (p.p = y.p))) fun w' => Ext no w w') :=
  Q3a hp.1.1 hp.2.1.1 hy.1.1 hy.2.1.1 l1 l2
theorem Q1O (F : Fine al) {p : PP} {t : Nat} (h : p.p = atK al t) : p.x.e.body.length < 1000000 ∧ p.y.e.body.length < 1000000 := by
  have hs : p.p.1.body.length < 1000000 ∧ p.p.2.body.length < 1000000 := by
    rw [h]; unfold atK
    cases hx : alook al (t : Int) with
    | none => exact ⟨by decide, by decide⟩
    | some v => have := F.sm _ (Q2N hx); exact ⟨Nat.lt_of_le_of_lt this.1 (by decide), Nat.lt_of_le_of_lt this.2 (by decide)⟩
  exact hs
theorem alm_in {R : RW} {I2 : Nat → List Value → World → Prop} {m t : Nat} {pa : Option Addr} {ps : List PP} (h : AI W k j q r S n al al w o) (hrow : Row w o pa (PP.Cs ps)) (hok : ∀ p ∈ ps, p.ok w o) (hmap : ps.map PP.p = (inL al).map (atK al)) (ht : t < 8) (e27 : w27.heap.size = q) (e28 : w28.heap.size = r)
    (hI : ∀ w2 o2, Step no w o w2 o2 → ∃ m2, m2 < m ∧ I2 m2 [.int .i64 (cntK al (t + 1) : Int), .int .i64 ((t : Int) + 1)] w2) :
    almL.J5 (cntK al t) t I2 m (some (blk j)) pa ps.length w27 w28 R w := by
  have hc8 : cntK al t ≤ 8 := by
    have := cnt_le al t (by omega)
    have := List.length_filter_le (hasK al) (List.range 8)
    rw [List.length_range] at this
    unfold inL at *; omega
  subst e27 e28
  unfold almL.J5
  refine (Of_spec h.alm h.st.ok h.fin.slim (t : Int)).mono fun e w503 ⟨o503, p, he, s503, hp, pok⟩ => ⟨p.x.e.w, p.x.e.i, p.x.e.pv, p.x.e.t, p.x.e.tw, p.x.e.ep, p.x.a, p.x.e.body.length, p.x.c, p.x.e.sg, p.y.e.w, p.y.e.i, p.y.e.pv, p.y.e.t, p.y.e.tw, p.y.e.ep, p.y.a, p.y.e.body.length, p.y.c, p.y.e.sg, (alook al (t : Int)).isSome, he, Q01 fun w504 e504 => ?_⟩
  refine Q1g (vs := p.C) e504 rfl fun w505 X505 hb505 => Q01 fun w506 e506 => ?_
  have X506 : Ext no w503 w506 := X505.x_drew e506
  have s506 := Step.of_no X506 s503.ok
  have h506 := (h.step0 s503).step0 s506
  have pok506 := pok.step s506
  have hb506 := hb505.x_drew e506
  have hpt : p.p = atK al t := hp
  obtain ⟨ws, wb, wl8, wok, wp⟩ := id h506.wb
  obtain ⟨x, hx⟩ : ∃ x, ws[t]? = some x := ⟨_, List.getElem?_eq_getElem (by omega)⟩
  have hxt := wp t x hx
  have xok := wok x (List.mem_of_getElem? hx)
  refine ⟨by omega, by omega, hasK al t, Q2E h506.hb ht, ?_⟩
  rw [show (!((alook al (t : Int)).isSome == hasK al t)) = false by unfold hasK; simp, cond_false]
  refine ⟨p.x.e.w, p.x.e.i, p.x.e.pv, p.x.e.t, p.x.e.tw, p.x.e.ep, p.x.a, p.x.e.body.length, p.x.c, p.x.e.sg, p.y.e.w, p.y.e.i, p.y.e.pv, p.y.e.t, p.y.e.tw, p.y.e.ep, p.y.a, p.y.e.body.length, p.y.c, p.y.e.sg, Q1k hb506, by omega, by omega, x.x.e.w, x.x.e.i, x.x.e.pv, x.x.e.t, x.x.e.tw, x.x.e.ep, x.x.a, x.x.e.body.length, x.x.c, x.x.e.sg, x.y.e.w, x.y.e.i, x.y.e.pv, x.y.e.t, x.y.e.tw, x.y.e.ep, x.y.a, x.y.e.body.length, x.y.c, x.y.e.sg, Q1u (RowAt.of_blk wb) hx, ?_⟩
  refine (back_spec' p).mono fun e w557 ⟨he, X557⟩ => ⟨p.x.e.w, p.x.e.i, p.x.e.pv, p.x.e.t, p.x.e.tw, p.x.e.ep, p.x.a, p.x.e.body.length, p.x.c, p.x.e.sg, p.y.e.w, p.y.e.i, p.y.e.pv, p.y.e.t, p.y.e.tw, p.y.e.ep, p.y.a, p.y.e.body.length, p.y.c, p.y.e.sg, he, Q1J X557 (Q1u (RowAt.of_blk wb) hx), ?_⟩
  refine (back_spec' x).mono fun e w575 ⟨he, X575⟩ => ⟨x.x.e.w, x.x.e.i, x.x.e.pv, x.x.e.t, x.x.e.tw, x.x.e.ep, x.x.a, x.x.e.body.length, x.x.c, x.x.e.sg, x.y.e.w, x.y.e.i, x.y.e.pv, x.y.e.t, x.y.e.tw, x.y.e.ep, x.y.a, x.y.e.body.length, x.y.c, x.y.e.sg, he, ?_⟩
  have s575 := Step.of_no (X557.trans X575) h506.st.ok
  refine (same_spec' (pok506.step s575) (xok.step s575) (Q1O h.fin hpt).1 (Q1O h.fin hpt).2).mono fun e w578 ⟨he, X578⟩ => ⟨_, he, ?_⟩
  rw [show (!decide (p.p = x.p)) = false by rw [hpt, hxt]; simp, cond_false]
  have s578' := Step.of_no X578 s575.ok
  have s578 := s575.trans s578'
  have h578 := h506.step0 s578
  have t578 : Step no w o w578 _ := (s503.trans s506).trans s578
  unfold almL.J4
  refine ⟨by omega, by omega, hasK al t, Q2E h578.hb ht, ?_⟩
  have wr : IntKind.i64.wrap ((t : Int) + 1) = (t : Int) + 1 := w64 (by omega) (by omega)
  have wc : IntKind.i64.wrap ((cntK al t : Int) + 1) = (cntK al t : Int) + 1 := w64 (by omega) (by omega)
  rw [wr, wc]
  cases hk : hasK al t with
  | false =>
    rw [cond_false]
    have := hI w578 _ t578
    rw [cnt_no hk] at this
    exact this
  | true =>
    rw [cond_true]
    refine Q01 fun w742 e742 => ?_
    have X742 : Ext no w578 w742 := (Ext.refl _ _).x_drew e742
    have s742 := Step.of_no X742 s578.ok
    have t742 := t578.trans s742
    have h742 := h578.step0 s742
    have hin := inL_at ht hk
    have hy0 : (ps.map PP.p)[cntK al t]? = some (atK al t) := by rw [hmap, List.getElem?_map, hin]; rfl
    obtain ⟨y, hy, hyt⟩ := Option.map_eq_some_iff.1 ((List.getElem?_map ..).symm.trans hy0)
    have hlt : cntK al t < ps.length := (List.getElem?_eq_some_iff.1 hy).1
    rw [decide_eq_false (by omega), cond_false]
    have hr742 := (hrow.step t742).1
    obtain ⟨ad, rfl⟩ := hr742.faddr PP.len (by decide) hlt
    obtain ⟨ws', wb', wl8', wok', wp'⟩ := id h742.wb
    obtain ⟨x', hx'⟩ : ∃ x, ws'[t]? = some x := ⟨_, List.getElem?_eq_getElem (by omega)⟩
    have hxt' := wp' t x' hx'
    have xok' := wok' x' (List.mem_of_getElem? hx')
    have yok := (hok y (List.mem_of_getElem? hy)).step t742
    show _ ∧ _
    refine ⟨by omega, by omega, y.x.e.w, y.x.e.i, y.x.e.pv, y.x.e.t, y.x.e.tw, y.x.e.ep, y.x.a, y.x.e.body.length, y.x.c, y.x.e.sg, y.y.e.w, y.y.e.i, y.y.e.pv, y.y.e.t, y.y.e.tw, y.y.e.ep, y.y.a, y.y.e.body.length, y.y.c, y.y.e.sg, Q1u hr742 hy, by omega, by omega, x'.x.e.w, x'.x.e.i, x'.x.e.pv, x'.x.e.t, x'.x.e.tw, x'.x.e.ep, x'.x.a, x'.x.e.body.length, x'.x.c, x'.x.e.sg, x'.y.e.w, x'.y.e.i, x'.y.e.pv, x'.y.e.t, x'.y.e.tw, x'.y.e.ep, x'.y.a, x'.y.e.body.length, x'.y.c, x'.y.e.sg, Q1u (RowAt.of_blk wb') hx', ?_⟩
    refine (back_spec' y).mono fun e w793 ⟨he, X793⟩ => ⟨y.x.e.w, y.x.e.i, y.x.e.pv, y.x.e.t, y.x.e.tw, y.x.e.ep, y.x.a, y.x.e.body.length, y.x.c, y.x.e.sg, y.y.e.w, y.y.e.i, y.y.e.pv, y.y.e.t, y.y.e.tw, y.y.e.ep, y.y.a, y.y.e.body.length, y.y.c, y.y.e.sg, he, Q1J X793 (Q1u (RowAt.of_blk wb') hx'), ?_⟩
    refine (back_spec' x').mono fun e w811 ⟨he, X811⟩ => ⟨x'.x.e.w, x'.x.e.i, x'.x.e.pv, x'.x.e.t, x'.x.e.tw, x'.x.e.ep, x'.x.a, x'.x.e.body.length, x'.x.c, x'.x.e.sg, x'.y.e.w, x'.y.e.i, x'.y.e.pv, x'.y.e.t, x'.y.e.tw, x'.y.e.ep, x'.y.a, x'.y.e.body.length, x'.y.c, x'.y.e.sg, he, ?_⟩
    have s811 := Step.of_no (X793.trans X811) h742.st.ok
    refine (same_spec' (yok.step s811) (xok'.step s811) (Q1O h.fin hyt).1 (Q1O h.fin hyt).2).mono fun e w814 ⟨he, X814⟩ => ⟨_, he, ?_⟩
    rw [show (!decide (y.p = x'.p)) = false by rw [hyt, hxt']; simp, cond_false]
    have := hI w814 _ ((t742.trans s811).trans (Step.of_no X814 s811.ok))
    rw [cnt_yes hk] at this
    exact this
theorem Q2B {on : Bool} {i : Int} {I0 : Nat → List Value → World → Prop} {R : RW} {m : Nat} (h : AI W k j q r S n al al w o) (hon : on = decide (al ≠ [])) (e27 : w27.heap.size = q) (e28 : w28.heap.size = r)
    (nx : ∀ w2 o2, AI W k j q r S n al al w2 o2 → ∃ m2, m2 < m ∧ I0 m2 [.bool on, .int .i64 (IntKind.i64.wrap (i + 1))] w2) : almL.J6 on i I0 m (some (blk j)) w27 w28 R w := by
  unfold almL.J6
  refine (Q3l h.alm h.st.ok h.fin).mono fun e w102 ⟨o102, pa, pc, ps, he, s102, hmap, hrow, hok⟩ => ⟨pa, ps.length, pc, he, ?_⟩
  have h102 := h.step0 s102
  refine ⟨fun m vs w1 => ∃ (t : Nat) (o1 : Own), vs = [.int .i64 (cntK al t : Int), .int .i64 t] ∧ m + t = 8 ∧ Step no w102 o102 w1 o1, 8, ⟨0, o102, rfl, rfl, Step.refl _ s102.ok⟩, ?_⟩
  rintro m1 w1 nv wv ⟨t, o1, hv, hm, s1⟩
  simp only [List.cons.injEq, Value.int.injEq, true_and, and_true] at hv
  obtain ⟨rfl, rfl⟩ := hv
  have h1 := h102.step0 s1
  by_cases ht : t < 8
  · rw [decide_eq_true (by omega), cond_true]
    exact alm_in h1 (hrow.step s1) (fun p hp => (hok p hp).step s1) hmap ht e27 e28 fun w2 o2 s2 => ⟨m1 - 1, by omega, t + 1, o2, by simp, by omega, s1.trans s2⟩
  · obtain rfl : t = 8 := by omega
    rw [decide_eq_false (by omega), cond_false]
    refine (On_spec h1.alm).mono fun e w447 ⟨he, hw⟩ => ⟨_, he, ?_⟩
    subst hw
    have hlen : ps.length = (inL al).length := by have := congrArg List.length hmap; simpa using this
    rw [hon, show (!(decide (al ≠ []) == decide (al ≠ []))) = false by simp, cond_false, show (((cntK al 8 : Nat) : Int) != ((ps.length : Nat) : Int)) = false by rw [cnt_end, hlen]; simp, cond_false, ← hon]
    exact nx _ _ h1
end
section
variable {W w w' w0 w27 w28 : World} {o o' : Own} {k j q r n qx : Nat} {K : Nat → Prop} {S : OS} {al wl : AL} {p : Int}
theorem puts_at {kk k : Nat} {t : TypeId} {cs vs : List Value} {Φ : World → Prop} (hk : kk = k) (hb : Blk w q t cs) (hl : k + vs.length ≤ cs.length) (h : ∀ w', Ext (fun b => b = q) w w' → Blk w' q t (setAll cs k vs) → Φ w') : putsK w ((blk q).add kk) vs 0 Φ := by
  subst hk
  exact Q0H hb (by omega) fun w' X hb' => h w' X (by simpa using hb')
structure XI (W : World) (k j q r qx : Nat) (x : PP) (w : World) (o : Own) : Prop where
  b : Blk w qx 38 x.C
  t : o qx = some qx
  ok : x.ok w o
  f1 : x.x.e.fit
  f2 : x.y.e.fit
  l1 : x.x.e.body.length ≤ 1500
  l2 : x.y.e.body.length ≤ 1500
  ne : W.heap.size ≤ qx ∧ qx ≠ k ∧ qx ≠ j ∧ qx ≠ q ∧ qx ≠ r
theorem XI.step {x : PP} (h : XI W k j q r qx x w o) (s : Step K w o w' o') (hk : ¬ K qx) : XI W k j q r qx x w' o' := ⟨s.blk h.b h.t hk, (s.own h.b.lt).trans h.t, h.ok.step s, h.f1, h.f2, h.l1, h.l2, h.ne⟩
def NX (W : World) (k j q r n : Nat) (i : Int) (I0 : Nat → List Value → World → Prop) (m : Nat) : Prop :=
  ∀ S al on w o, AI W k j q r S n al al w o → on = decide (al ≠ []) → ∃ m2, m2 < m ∧ I0 m2 [.bool on, .int .i64 (IntKind.i64.wrap (i + 1))] w
theorem NX.less {i : Int} {I0 : Nat → List Value → World → Prop} {m n' : Nat} (h : NX W k j q r n i I0 m) (hn : n' ≤ n) : NX W k j q r n' i I0 m := fun S al on w o hA hon => h S al on w o (hA.more hn) hon
theorem Q2e {hold : Ent → Bool} {a b : Ent} (h : checkP hold a b = 0) : 0 ≤ a.w ∧ a.w < 8 := by
  unfold checkP at h
  by_cases hr : Q0o a = true ∧ Q0o b = true
  · have := hr.1
    unfold Q0o at this
    have := of_decide_eq_true this
    exact ⟨this.1, this.2.1⟩
  · rw [if_pos hr] at h; exact absurd h (by decide)
theorem Q3O {a b : Ent} (F : Fine al) (la : a.body.length ≤ 1500) (lb : b.body.length ≤ 1500) : Fine (raiseP S p al a b).2 := by
  unfold raiseP
  by_cases h : checkP (holdsE S p) a b = 0
  · rw [if_pos h]
    cases hx : alook al a.w with
    | some v => exact F
    | none => exact F.put hx (Q2e h) la lb
  · rw [if_neg h]; exact F
theorem Q2g (a b : Ent) : (raiseP S p al a b).1 = checkP (holdsE S p) a b := by
  unfold raiseP
  by_cases h : checkP (holdsE S p) a b = 0
  · rw [if_pos h, h]
  · rw [if_neg h]
theorem Q3Q {x : PP} {on : Bool} {i : Int} {I0 : Nat → List Value → World → Prop} {R : RW} {m : Nat} (ap : Apart4 W k j q r) (h : AI W k j q r S n (raiseP S p al x.x.e x.y.e).2 al w o) (hX : XI W k j q r qx x w o) (hon : on = decide (al ≠ [])) (e27 : w27.heap.size = q) (e28 : w28.heap.size = r) (nx : NX W k j q r n i I0 m) :
    almL.J7 (raiseP S p al x.x.e x.y.e).1 (blk qx) on i I0 m (some (blk j)) w27 w28 R w := by
  subst e27 e28
  unfold almL.J7
  by_cases h0 : checkP (holdsE S p) x.x.e x.y.e = 0
  · have hr1 : (raiseP S p al x.x.e x.y.e).1 = 0 := by rw [Q2g, h0]
    rw [hr1, show ((0 : Int) == 0) = true from rfl, cond_true]
    obtain ⟨hw0, hw8⟩ := Q2e h0
    obtain ⟨wn, hwn⟩ : ∃ wn : Nat, x.x.e.w = wn := ⟨x.x.e.w.toNat, (Int.toNat_of_nonneg hw0).symm⟩
    have hwc : ∀ {w1 : World}, Blk w1 qx 38 x.C → w1.cell? (((blk qx).add 0).add 0) = some (.int .i64 (wn : Int)) := fun hb => hb.celli 0 (by rw [add_add, add_blk]) (by rw [← hwn]; rfl)
    have hw8' : wn < 8 := by omega
    refine ⟨wn, hwc hX.b, by omega, by omega, hasK al wn, Q2E h.hb hw8', ?_⟩
    cases hk : alook al x.x.e.w with
    | some v =>
      have hh : hasK al wn = true := by unfold hasK; rw [← hwn, hk]; rfl
      rw [hh, show (!true) = false from rfl, cond_false]
      have h2 : AI W k j w27.heap.size w28.heap.size S n al al w o := by
        have e : (raiseP S p al x.x.e x.y.e).2 = al := by unfold raiseP; rw [if_pos h0, hk]
        rw [e] at h; exact h
      have hne : true = decide (al ≠ []) := by
        rw [eq_comm, decide_eq_true_eq]; intro e; rw [e] at hk; cases hk
      exact Q2B (R := R) h2 hne rfl rfl fun w2 o2 h3 => nx S al true w2 o2 h3 hne
    | none =>
      have hh : hasK al wn = false := by unfold hasK; rw [← hwn, hk]; rfl
      rw [hh, show (!false) = true from rfl, cond_true]
      refine ⟨wn, hwc hX.b, by omega, by omega, ?_⟩
      have e2 : (raiseP S p al x.x.e x.y.e).2 = aput al (wn : Int) (x.x.e, x.y.e) := by unfold raiseP; rw [if_pos h0, hk, hwn]
      rw [e2] at h
      have hfiw := h.fin
      obtain ⟨ws, wb, wl8, wok, wp⟩ := h.wb
      have lr := h.hb.lt
      have lq := wb.lt
      refine (puts_at (vs := [.bool true]) (kk := Int.toNat (wn : Int) * 1) (k := wn) (by rw [Int.toNat_natCast, Nat.mul_one]) h.hb (by simp [hasL]; omega) fun w126 X126 hb126 => ?_ : putsK _ _ [.bool true] 0 _)
      have s126 := Step.of_ext X126 h.st.ok (p := w28.heap.size) fun b hb _ => by subst hb; exact h.ho
      have hX126 := hX.step s126 hX.ne.2.2.2.2
      have hset : setAll (hasL al) wn [.bool true] = hasL (aput al (wn : Int) (x.x.e, x.y.e)) := Q4k hw8' _
      rw [hset] at hb126
      have wb126 := s126.blk wb h.wo ap.qr
      have wo126 := (s126.own lq).trans h.wo
      refine ⟨wn, hwc hX126.b, x.x.e.w, x.x.e.i, x.x.e.pv, x.x.e.t, x.x.e.tw, x.x.e.ep, x.x.a, x.x.e.body.length, x.x.c, x.x.e.sg, x.y.e.w, x.y.e.i, x.y.e.pv, x.y.e.t, x.y.e.tw, x.y.e.ep, x.y.a, x.y.e.body.length, x.y.c, x.y.e.sg, Q1k hX126.b, by omega, by omega, ?_⟩
      refine (puts_at (vs := [.int .i64 x.x.e.w, .int .i64 x.x.e.i, .int .u64 x.x.e.pv, .int .i64 x.x.e.t, .int .i64 x.x.e.tw, .int .i64 x.x.e.ep, .slice x.x.a x.x.e.body.length x.x.c, .int .u64 x.x.e.sg, .int .i64 x.y.e.w, .int .i64 x.y.e.i, .int .u64 x.y.e.pv, .int .i64 x.y.e.t, .int .i64 x.y.e.tw, .int .i64 x.y.e.ep, .slice x.y.a x.y.e.body.length x.y.c, .int .u64 x.y.e.sg]) (kk := Int.toNat (wn : Int) * 16) (k := wn * 16) (by rw [Int.toNat_natCast]) wb126 (by rw [PP.Cs_length]; simp only [List.length_cons, List.length_nil]; omega) fun w159 X159 hb159 => ?_ : putsK _ _ [.int .i64 x.x.e.w, .int .i64 x.x.e.i, .int .u64 x.x.e.pv, .int .i64 x.x.e.t, .int .i64 x.x.e.tw, .int .i64 x.x.e.ep, .slice x.x.a x.x.e.body.length x.x.c, .int .u64 x.x.e.sg, .int .i64 x.y.e.w, .int .i64 x.y.e.i, .int .u64 x.y.e.pv, .int .i64 x.y.e.t, .int .i64 x.y.e.tw, .int .i64 x.y.e.ep, .slice x.y.a x.y.e.body.length x.y.c, .int .u64 x.y.e.sg] 0 _)
      have s159 := Step.of_ext X159 s126.ok (p := w27.heap.size) fun b hb _ => by subst hb; exact wo126
      have hset2 : setAll (PP.Cs ws) (wn * 16) [.int .i64 x.x.e.w, .int .i64 x.x.e.i, .int .u64 x.x.e.pv, .int .i64 x.x.e.t, .int .i64 x.x.e.tw, .int .i64 x.x.e.ep, .slice x.x.a x.x.e.body.length x.x.c, .int .u64 x.x.e.sg, .int .i64 x.y.e.w, .int .i64 x.y.e.i, .int .u64 x.y.e.pv, .int .i64 x.y.e.t, .int .i64 x.y.e.tw, .int .i64 x.y.e.ep, .slice x.y.a x.y.e.body.length x.y.c, .int .u64 x.y.e.sg] = PP.Cs (ws.set wn x) := PP.Cs_set x (by omega)
      rw [hset2] at hb159
      have sall : Step no W (fun _ => none) w159 _ := (h.st.trans' s126 fun i hi => .inr (by rw [hi]; exact ap.r0)).trans' s159 fun i hi => .inr (by rw [hi]; exact ap.q0)
      have lr126 := hb126.lt
      have h159 : AI W k j w27.heap.size w28.heap.size S n (aput al (wn : Int) (x.x.e, x.y.e)) (aput al (wn : Int) (x.x.e, x.y.e)) w159 _ :=
        ⟨sall, (h.p.step s126 ap.kr).step s159 ap.kq, h.inv, h.len, (h.alm.step s126 ap.jr).step s159 ap.jq,
          ⟨ws.set wn x, hb159, by rw [List.length_set]; exact wl8, fun y hy => ?_, fun i y hy => ?_⟩, (s159.own wb126.lt).trans wo126, s159.blk hb126 ((s126.own lr).trans h.ho) ap.qr.symm, (s159.own lr126).trans ((s126.own lr).trans h.ho), hfiw, hfiw⟩
      · have hne : true = decide (aput al (wn : Int) (x.x.e, x.y.e) ≠ []) := by
          rw [eq_comm, decide_eq_true_eq]; intro e
          have hk' : alook al (wn : Int) = none := by rw [← hwn]; exact hk
          rw [Q2T hk'] at e
          have := congrArg List.length e
          simp at this
        exact Q2B (R := R) h159 hne rfl rfl fun w2 o2 h3 => nx S _ true w2 o2 h3 hne
      · rcases List.mem_or_eq_of_mem_set hy with hy | rfl
        · exact ((wok y hy).step s126).step s159
        · exact (hX.ok.step s126).step s159
      · rw [List.getElem?_set] at hy
        unfold atK
        rw [Q0z]
        by_cases hi : wn = i
        · subst hi
          rw [if_pos rfl, if_pos (by omega)] at hy
          cases hy
          rw [if_pos rfl]; rfl
        · rw [if_neg hi] at hy
          rw [if_neg (by omega)]
          exact wp i y hy
  · have hr1 : (raiseP S p al x.x.e x.y.e).1 = checkP (holdsE S p) x.x.e x.y.e := Q2g _ _
    have e : (raiseP S p al x.x.e x.y.e).2 = al := by unfold raiseP; rw [if_neg h0]
    rw [e] at h
    rw [hr1, show (checkP (holdsE S p) x.x.e x.y.e == 0) = false by simpa using h0, cond_false]
    exact Q2B (R := R) h hon rfl rfl fun w2 o2 h3 => nx S al on w2 o2 h3 hon
theorem Q20 {x : PP} {on : Bool} {i : Int} {I0 : Nat → List Value → World → Prop} {R : RW} {m : Nat} (ap : Apart4 W k j q r) (h : AI W k j q r S n al al w o) (hX : XI W k j q r qx x w o) (hon : on = decide (al ≠ [])) (e27 : w27.heap.size = q) (e28 : w28.heap.size = r) (nx : NX W k j q r n i I0 m) :
    almL.J8 (blk qx) on i I0 m (some (blk k)) (some (blk j)) p w27 w28 R w := by
  unfold almL.J8
  refine ⟨x.x.e.w, x.x.e.i, x.x.e.pv, x.x.e.t, x.x.e.tw, x.x.e.ep, x.x.a, x.x.e.body.length, x.x.c, x.x.e.sg, x.y.e.w, x.y.e.i, x.y.e.pv, x.y.e.t, x.y.e.tw, x.y.e.ep, x.y.a, x.y.e.body.length, x.y.c, x.y.e.sg, Q1k hX.b, ?_⟩
  have l1 := hX.l1
  have l2 := hX.l2
  refine (Q2t (a := x.x.e) (b := x.y.e) h.alm h.p h.st.ok ap.kj p (fun _ => hX.f1) (fun _ => hX.f2) hX.ok.1 hX.ok.2.1 (by omega) (by omega)).mono fun e w826 ⟨o826, he, s826, A826⟩ => ⟨_, he, ?_⟩
  have hX826 := hX.step s826 hX.ne.2.2.1
  obtain ⟨ws, w1, w2, w3, w4⟩ := h.wb
  have h826 : AI W k j q r S n (raiseP S p al x.x.e x.y.e).2 al w826 o826 :=
    ⟨h.st.trans' s826 fun i hi => .inr (by rw [hi]; exact ap.j0), h.p.step s826 ap.kj, h.inv, h.len, A826, ⟨ws, s826.blk w1 h.wo ap.jq.symm, w2, fun y hy => (w3 y hy).step s826, w4⟩, (s826.own w1.lt).trans h.wo, s826.blk h.hb h.ho ap.jr.symm, (s826.own h.hb.lt).trans h.ho, Q3O h.fin hX.l1 hX.l2, h.fiw⟩
  refine ⟨x.x.e.w, x.x.e.i, x.x.e.pv, x.x.e.t, x.x.e.tw, x.x.e.ep, x.x.a, x.x.e.body.length, x.x.c, x.x.e.sg, x.y.e.w, x.y.e.i, x.y.e.pv, x.y.e.t, x.y.e.tw, x.y.e.ep, x.y.a, x.y.e.body.length, x.y.c, x.y.e.sg, Q1k hX826.b, ?_⟩
  refine (Q1H (a := x.x.e) (b := x.y.e) h826.p h826.st.ok p (fun _ => hX.f1) (fun _ => hX.f2) hX826.ok.1.1 hX826.ok.2.1.1).mono fun e w845 ⟨he, X845⟩ => ⟨_, he, ?_⟩
  rw [show ((raiseP S p al x.x.e x.y.e).1 != checkP (holdsE S p) x.x.e x.y.e) = false by rw [Q2g]; simp, cond_false]
  have s845 := Step.of_no X845 h826.st.ok
  exact Q3Q ap (h826.step0 s845) (hX826.step s845 id) hon e27 e28 nx
end
end Go.Proofs.Ytebghegecofmhaa