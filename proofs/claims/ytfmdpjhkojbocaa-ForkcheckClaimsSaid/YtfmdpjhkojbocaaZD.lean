/- Forkcheck: what proves. -/
import Derived.Test.YtfmdpjhkojbocaaZC
import Derived.Test.YtfmdpjhkojbocaaZB
import Derived.Test.YtfmdpjhkojbocaaProg
import Derived.Test.YtfmdpjhkojbocaaZA
import Derived.KernelRfl
set_option linter.unusedVariables false
set_option linter.unusedSimpArgs false
set_option maxRecDepth 20000
set_option maxHeartbeats 2000000
namespace Go.Proofs.Ytfmdpjhkojbocaa
open Go Go.Mx Go.Proofs
open W (OwnB GivesW numR countR doneR zig unzig intR)
/-- (forkcheck.Proof).right -/
def forkcheck_Proof_right.M (al : Int) (aw : Int) (b2 : Int) (b7 : Int) (b6 : Int) (ax : Int) (az : Option Addr) (au : Nat) (ao : Nat) (b8 : Int) (ag : Int) (ak : Int) (ap : Int) (b1 : Int) (b4 : Int) (am : Int) (aj : Option Addr) (ah : Nat) (ai : Nat) (b3 : Int) (R : Value → World → Prop) (w : World) : Prop :=
 thenW (w.alloc (.cells #[.int .i64 al, .int .i64 aw, .int .u64 b2, .int .i64 b7, .int .i64 b6, .int .i64 ax, .slice az au ao, .int .u64 b8, .int .i64 ag, .int .i64 ak, .int .u64 ap, .int .i64 b1, .int .i64 b4, .int .i64 am, .slice aj ah ai, .int .u64 b3] 44)) fun ba =>
 ∃ (a0 : Int) (a2 : Int) (ad : Int) (av : Int) (ar : Int) (ab : Int) (a9 : Option Addr) (aa : Nat) (a6 : Nat) (aq : Int), cellsAt ba ((blk w.heap.size).add 0) [.int .i64 a0, .int .i64 a2, .int .u64 ad, .int .i64 av, .int .i64 ar, .int .i64 ab, .slice a9 aa a6, .int .u64 aq] 0 ∧
 Calls Try.prog 34 #[.agg #[.int .i64 a0, .int .i64 a2, .int .u64 ad, .int .i64 av, .int .i64 ar, .int .i64 ab, .slice a9 aa a6, .int .u64 aq]] ba fun bc b5 => ∃ (ae : Bool), bc = .returned (.bool ae) ∧
 bif ae then (
 ∃ (a1 : Int) (a8 : Int) (ac : Int) (an : Int) (ay : Int) (a5 : Int) (a3 : Option Addr) (a4 : Nat) (a7 : Nat) (b0 : Int), cellsAt b5 ((blk w.heap.size).add 8) [.int .i64 a1, .int .i64 a8, .int .u64 ac, .int .i64 an, .int .i64 ay, .int .i64 a5, .slice a3 a4 a7, .int .u64 b0] 0 ∧
 Calls Try.prog 34 #[.agg #[.int .i64 a1, .int .i64 a8, .int .u64 ac, .int .i64 an, .int .i64 ay, .int .i64 a5, .slice a3 a4 a7, .int .u64 b0]] b5 fun bb b9 => ∃ (af : Bool), bb = .returned (.bool af) ∧
 bif af then (
 R (.int .i64 0) b9) else (
 R (.int .i64 1) b9)) else (
 R (.int .i64 1) b5)

theorem forkcheck_Proof_right.eq (pAWriter1 : Int) (pAIndex2 : Int) (pAPrev3 : Int) (pAAtT4 : Int) (pAAtW5 : Int) (pAEpoch6 : Int) (pABody7a : Option Addr) (pABody7n : Nat) (pABody7c : Nat) (pASig8 : Int) (pBWriter9 : Int) (pBIndex10 : Int) (pBPrev11 : Int) (pBAtT12 : Int) (pBAtW13 : Int) (pBEpoch14 : Int) (pBBody15a : Option Addr) (pBBody15n : Nat) (pBBody15c : Nat) (pBSig16 : Int) (R : Value → World → Prop) (w : World) : mfunc Try.prog [] 41 [.agg #[.int .i64 pAWriter1, .int .i64 pAIndex2, .int .u64 pAPrev3, .int .i64 pAAtT4, .int .i64 pAAtW5, .int .i64 pAEpoch6, .slice pABody7a pABody7n pABody7c, .int .u64 pASig8, .int .i64 pBWriter9, .int .i64 pBIndex10, .int .u64 pBPrev11, .int .i64 pBAtT12, .int .i64 pBAtW13, .int .i64 pBEpoch14, .slice pBBody15a pBBody15n pBBody15c, .int .u64 pBSig16]] R w = forkcheck_Proof_right.M pAWriter1 pAIndex2 pAPrev3 pAAtT4 pAAtW5 pAEpoch6 pABody7a pABody7n pABody7c pASig8 pBWriter9 pBIndex10 pBPrev11 pBAtT12 pBAtW13 pBEpoch14 pBBody15a pBBody15n pBBody15c pBSig16 R w := by kernel_rfl
theorem forkcheck_Proof_right.ok (a5 : Int) (aa : Int) (ae : Int) (ai : Int) (ah : Int) (ab : Int) (ac : Option Addr) (a9 : Nat) (a7 : Nat) (aj : Int) (a0 : Int) (a4 : Int) (a8 : Int) (ad : Int) (ag : Int) (a6 : Int) (a3 : Option Addr) (a1 : Nat) (a2 : Nat) (af : Int) {R : Value → World → Prop} {w : World} (h : forkcheck_Proof_right.M a5 aa ae ai ah ab ac a9 a7 aj a0 a4 a8 ad ag a6 a3 a1 a2 af R w) : Calls Try.prog 41 #[.agg #[.int .i64 a5, .int .i64 aa, .int .u64 ae, .int .i64 ai, .int .i64 ah, .int .i64 ab, .slice ac a9 a7, .int .u64 aj, .int .i64 a0, .int .i64 a4, .int .u64 a8, .int .i64 ad, .int .i64 ag, .int .i64 a6, .slice a3 a1 a2, .int .u64 af]] w fun e w' => ∃ v, e = .returned v ∧ R v w' :=
  mfunc_ok follows (H := []) (args := [.agg #[.int .i64 a5, .int .i64 aa, .int .u64 ae, .int .i64 ai, .int .i64 ah, .int .i64 ab, .slice ac a9 a7, .int .u64 aj, .int .i64 a0, .int .i64 a4, .int .u64 a8, .int .i64 ad, .int .i64 ag, .int .i64 a6, .slice a3 a1 a2, .int .u64 af]]) (by rw [forkcheck_Proof_right.eq]; exact h)

def forkcheck_Proof_right.N (a5 : Int) (aa : Int) (ae : Int) (ai : Int) (ah : Int) (ab : Int) (ac : Option Addr) (a9 : Nat) (a7 : Nat) (ak : Int) (a0 : Int) (a4 : Int) (a8 : Int) (ad : Int) (ag : Int) (a6 : Int) (a3 : Option Addr) (a1 : Nat) (a2 : Nat) (af : Int) (R : Value → World → Prop) (w : World) : Prop :=
 ((entry_Right.F a5 aa ae ai ah ab ac a9 a7 ak) = true →
 ((entry_Right.F a0 a4 a8 ad ag a6 a3 a1 a2 af) = true →
 ∀ (aj : World), Ext no w aj →
 R (.int .i64 0) aj) ∧
 ((entry_Right.F a0 a4 a8 ad ag a6 a3 a1 a2 af) = false →
 ∀ (aj : World), Ext no w aj →
 R (.int .i64 1) aj)) ∧
 ((entry_Right.F a5 aa ae ai ah ab ac a9 a7 ak) = false →
 ∀ (al : World), Ext no w al →
 R (.int .i64 1) al)

theorem forkcheck_Proof_right.up (a5 : Int) (aa : Int) (ae : Int) (ai : Int) (ah : Int) (ab : Int) (ac : Option Addr) (a9 : Nat) (a7 : Nat) (aj : Int) (a0 : Int) (a4 : Int) (a8 : Int) (ad : Int) (ag : Int) (a6 : Int) (a3 : Option Addr) (a1 : Nat) (a2 : Nat) (af : Int) {R : Value → World → Prop} {w : World} (h : forkcheck_Proof_right.N a5 aa ae ai ah ab ac a9 a7 aj a0 a4 a8 ad ag a6 a3 a1 a2 af R w) : forkcheck_Proof_right.M a5 aa ae ai ah ab ac a9 a7 aj a0 a4 a8 ad ag a6 a3 a1 a2 af R w := by
  unfold forkcheck_Proof_right.M
  unfold forkcheck_Proof_right.N at h
  refine thenW_in fun ar aq => ?_
  have ak := Blk.of_new aq
  have au := ((Ext.refl no w)).size
  have ap := (Ext.refl no w).x_alloc aq
  refine ⟨a5, aa, ae, ai, ah, ab, ac, a9, a7, aj, ⟨ak.celli 0 rfl rfl, ak.celli 1 rfl rfl, ak.celli 2 rfl rfl, ak.celli 3 rfl rfl, ak.celli 4 rfl rfl, ak.celli 5 rfl rfl, ak.celli 6 rfl rfl, ak.celli 7 rfl rfl, trivial⟩, ?_⟩
  refine (entry_Right.pure a5 aa ae ai ah ab ac a9 a7 aj).mono fun ee ww18 ⟨he, hxx⟩ => ⟨(entry_Right.F a5 aa ae ai ah ab ac a9 a7 aj), he, ?_⟩
  have al := ap.trans hxx
  have ak := ak.ext hxx id
  refine bif_of (fun ao => ?_) (fun ao => ?_)
  · have h := h.1 ao
    refine ⟨a0, a4, a8, ad, ag, a6, a3, a1, a2, af, ⟨ak.celli 8 rfl rfl, ak.celli 9 rfl rfl, ak.celli 10 rfl rfl, ak.celli 11 rfl rfl, ak.celli 12 rfl rfl, ak.celli 13 rfl rfl, ak.celli 14 rfl rfl, ak.celli 15 rfl rfl, trivial⟩, ?_⟩
    refine (entry_Right.pure a0 a4 a8 ad ag a6 a3 a1 a2 af).mono fun ee ww20 ⟨he, hxx⟩ => ⟨(entry_Right.F a0 a4 a8 ad ag a6 a3 a1 a2 af), he, ?_⟩
    have am := al.trans hxx
    refine bif_of (fun an => ?_) (fun an => ?_)
    · have h := h.1 an
      have h := h ww20 am
      exact h
    · have h := h.2 an
      have h := h ww20 am
      exact h
  · have h := h.2 ao
    have h := h ww18 al
    exact h

theorem forkcheck_Proof_right.go (a5 : Int) (aa : Int) (ae : Int) (ai : Int) (ah : Int) (ab : Int) (ac : Option Addr) (a9 : Nat) (a7 : Nat) (aj : Int) (a0 : Int) (a4 : Int) (a8 : Int) (ad : Int) (ag : Int) (a6 : Int) (a3 : Option Addr) (a1 : Nat) (a2 : Nat) (af : Int) {R : Value → World → Prop} {w : World} (h : forkcheck_Proof_right.N a5 aa ae ai ah ab ac a9 a7 aj a0 a4 a8 ad ag a6 a3 a1 a2 af R w) : Calls Try.prog 41 #[.agg #[.int .i64 a5, .int .i64 aa, .int .u64 ae, .int .i64 ai, .int .i64 ah, .int .i64 ab, .slice ac a9 a7, .int .u64 aj, .int .i64 a0, .int .i64 a4, .int .u64 a8, .int .i64 ad, .int .i64 ag, .int .i64 a6, .slice a3 a1 a2, .int .u64 af]] w fun e w' => ∃ v, e = .returned v ∧ R v w' := forkcheck_Proof_right.ok a5 aa ae ai ah ab ac a9 a7 aj a0 a4 a8 ad ag a6 a3 a1 a2 af (forkcheck_Proof_right.up a5 aa ae ai ah ab ac a9 a7 aj a0 a4 a8 ad ag a6 a3 a1 a2 af h)
theorem forkcheck_Proof_right.run (a5 : Int) (aa : Int) (ae : Int) (ai : Int) (ah : Int) (ab : Int) (ac : Option Addr) (a9 : Nat) (a7 : Nat) (aj : Int) (a0 : Int) (a4 : Int) (a8 : Int) (ad : Int) (ag : Int) (a6 : Int) (a3 : Option Addr) (a1 : Nat) (a2 : Nat) (af : Int) {V : Value} {Q : World → Prop} {w : World} (h : forkcheck_Proof_right.N a5 aa ae ai ah ab ac a9 a7 aj a0 a4 a8 ad ag a6 a3 a1 a2 af (fun v w' => v = V ∧ Q w') w) : Calls Try.prog 41 #[.agg #[.int .i64 a5, .int .i64 aa, .int .u64 ae, .int .i64 ai, .int .i64 ah, .int .i64 ab, .slice ac a9 a7, .int .u64 aj, .int .i64 a0, .int .i64 a4, .int .u64 a8, .int .i64 ad, .int .i64 ag, .int .i64 a6, .slice a3 a1 a2, .int .u64 af]] w (Ret V Q) := (forkcheck_Proof_right.go a5 aa ae ai ah ab ac a9 a7 aj a0 a4 a8 ad ag a6 a3 a1 a2 af h).mono fun e w' ⟨v, he, hv, hq⟩ => ⟨by rw [he, hv], hq⟩

def forkcheck_Proof_right.F (a5 : Int) (aa : Int) (ae : Int) (ai : Int) (ah : Int) (ab : Int) (ac : Option Addr) (a9 : Nat) (a7 : Nat) (aj : Int) (a0 : Int) (a4 : Int) (a8 : Int) (ad : Int) (ag : Int) (a6 : Int) (a3 : Option Addr) (a1 : Nat) (a2 : Nat) (af : Int) : Int :=
  if (entry_Right.F a5 aa ae ai ah ab ac a9 a7 aj) = true then
    if (entry_Right.F a0 a4 a8 ad ag a6 a3 a1 a2 af) = true then
      0
    else
      1
  else
    1
theorem forkcheck_Proof_right.pure (a5 : Int) (aa : Int) (ae : Int) (ai : Int) (ah : Int) (ab : Int) (ac : Option Addr) (a9 : Nat) (a7 : Nat) (aj : Int) (a0 : Int) (a4 : Int) (a8 : Int) (ad : Int) (ag : Int) (a6 : Int) (a3 : Option Addr) (a1 : Nat) (a2 : Nat) (af : Int) {w : World} : Calls Try.prog 41 #[.agg #[.int .i64 a5, .int .i64 aa, .int .u64 ae, .int .i64 ai, .int .i64 ah, .int .i64 ab, .slice ac a9 a7, .int .u64 aj, .int .i64 a0, .int .i64 a4, .int .u64 a8, .int .i64 ad, .int .i64 ag, .int .i64 a6, .slice a3 a1 a2, .int .u64 af]] w (Ret (.int .i64 (forkcheck_Proof_right.F a5 aa ae ai ah ab ac a9 a7 aj a0 a4 a8 ad ag a6 a3 a1 a2 af)) fun w' => Ext no w w') := by
  refine forkcheck_Proof_right.run a5 aa ae ai ah ab ac a9 a7 aj a0 a4 a8 ad ag a6 a3 a1 a2 af ?_
  unfold forkcheck_Proof_right.N
  refine ⟨fun c0 => ?_, fun c0 => ?_⟩
  · refine ⟨fun c1 => ?_, fun c1 => ?_⟩
    · intro w' hx; exact ⟨by unfold forkcheck_Proof_right.F; rw [if_pos c0, if_pos c1], hx⟩
    · intro w' hx; exact ⟨by unfold forkcheck_Proof_right.F; rw [if_pos c0, if_neg (by rw [c1]; decide)], hx⟩
  · intro w' hx; exact ⟨by unfold forkcheck_Proof_right.F; rw [if_neg (by rw [c0]; decide)], hx⟩

/-- (forkcheck.Proof).writers -/
def forkcheck_Proof_writers.M (a7 : Int) (ac : Int) (ah : Int) (al : Int) (ak : Int) (ad : Int) (ae : Option Addr) (ab : Nat) (a9 : Nat) (am : Int) (a2 : Int) (a6 : Int) (aa : Int) (af : Int) (aj : Int) (a8 : Int) (a5 : Option Addr) (a3 : Nat) (a4 : Nat) (ai : Int) (R : Value → World → Prop) (w : World) : Prop :=
 thenW (w.alloc (.cells #[.int .i64 a7, .int .i64 ac, .int .u64 ah, .int .i64 al, .int .i64 ak, .int .i64 ad, .slice ae ab a9, .int .u64 am, .int .i64 a2, .int .i64 a6, .int .u64 aa, .int .i64 af, .int .i64 aj, .int .i64 a8, .slice a5 a3 a4, .int .u64 ai] 44)) fun ag =>
 ∃ (a1 : Int), ag.cell? (((blk w.heap.size).add 0).add 0) = some (.int .i64 a1) ∧
 ∃ (a0 : Int), ag.cell? (((blk w.heap.size).add 8).add 0) = some (.int .i64 a0) ∧
 bif a1 == a0 then (
 R (.int .i64 0) ag) else (
 R (.int .i64 20) ag)

theorem forkcheck_Proof_writers.eq (pAWriter1 : Int) (pAIndex2 : Int) (pAPrev3 : Int) (pAAtT4 : Int) (pAAtW5 : Int) (pAEpoch6 : Int) (pABody7a : Option Addr) (pABody7n : Nat) (pABody7c : Nat) (pASig8 : Int) (pBWriter9 : Int) (pBIndex10 : Int) (pBPrev11 : Int) (pBAtT12 : Int) (pBAtW13 : Int) (pBEpoch14 : Int) (pBBody15a : Option Addr) (pBBody15n : Nat) (pBBody15c : Nat) (pBSig16 : Int) (R : Value → World → Prop) (w : World) : mfunc Try.prog [] 42 [.agg #[.int .i64 pAWriter1, .int .i64 pAIndex2, .int .u64 pAPrev3, .int .i64 pAAtT4, .int .i64 pAAtW5, .int .i64 pAEpoch6, .slice pABody7a pABody7n pABody7c, .int .u64 pASig8, .int .i64 pBWriter9, .int .i64 pBIndex10, .int .u64 pBPrev11, .int .i64 pBAtT12, .int .i64 pBAtW13, .int .i64 pBEpoch14, .slice pBBody15a pBBody15n pBBody15c, .int .u64 pBSig16]] R w = forkcheck_Proof_writers.M pAWriter1 pAIndex2 pAPrev3 pAAtT4 pAAtW5 pAEpoch6 pABody7a pABody7n pABody7c pASig8 pBWriter9 pBIndex10 pBPrev11 pBAtT12 pBAtW13 pBEpoch14 pBBody15a pBBody15n pBBody15c pBSig16 R w := by kernel_rfl
theorem forkcheck_Proof_writers.ok (a5 : Int) (aa : Int) (ae : Int) (ai : Int) (ah : Int) (ab : Int) (ac : Option Addr) (a9 : Nat) (a7 : Nat) (aj : Int) (a0 : Int) (a4 : Int) (a8 : Int) (ad : Int) (ag : Int) (a6 : Int) (a3 : Option Addr) (a1 : Nat) (a2 : Nat) (af : Int) {R : Value → World → Prop} {w : World} (h : forkcheck_Proof_writers.M a5 aa ae ai ah ab ac a9 a7 aj a0 a4 a8 ad ag a6 a3 a1 a2 af R w) : Calls Try.prog 42 #[.agg #[.int .i64 a5, .int .i64 aa, .int .u64 ae, .int .i64 ai, .int .i64 ah, .int .i64 ab, .slice ac a9 a7, .int .u64 aj, .int .i64 a0, .int .i64 a4, .int .u64 a8, .int .i64 ad, .int .i64 ag, .int .i64 a6, .slice a3 a1 a2, .int .u64 af]] w fun e w' => ∃ v, e = .returned v ∧ R v w' :=
  mfunc_ok follows (H := []) (args := [.agg #[.int .i64 a5, .int .i64 aa, .int .u64 ae, .int .i64 ai, .int .i64 ah, .int .i64 ab, .slice ac a9 a7, .int .u64 aj, .int .i64 a0, .int .i64 a4, .int .u64 a8, .int .i64 ad, .int .i64 ag, .int .i64 a6, .slice a3 a1 a2, .int .u64 af]]) (by rw [forkcheck_Proof_writers.eq]; exact h)

def forkcheck_Proof_writers.N (a1 : Int) (ab : Int) (af : Int) (aj : Int) (ai : Int) (ac : Int) (ad : Option Addr) (aa : Nat) (a8 : Nat) (ak : Int) (a0 : Int) (a6 : Int) (a9 : Int) (ae : Int) (ah : Int) (a7 : Int) (a5 : Option Addr) (a3 : Nat) (a4 : Nat) (ag : Int) (R : Value → World → Prop) (w : World) : Prop :=
 (a1 = a0 →
 ∀ (a2 : World), Ext no w a2 →
 R (.int .i64 0) a2) ∧
 (a1 ≠ a0 →
 ∀ (a2 : World), Ext no w a2 →
 R (.int .i64 20) a2)

theorem forkcheck_Proof_writers.up (a1 : Int) (aa : Int) (ae : Int) (ai : Int) (ah : Int) (ab : Int) (ac : Option Addr) (a9 : Nat) (a7 : Nat) (aj : Int) (a0 : Int) (a5 : Int) (a8 : Int) (ad : Int) (ag : Int) (a6 : Int) (a4 : Option Addr) (a2 : Nat) (a3 : Nat) (af : Int) {R : Value → World → Prop} {w : World} (h : forkcheck_Proof_writers.N a1 aa ae ai ah ab ac a9 a7 aj a0 a5 a8 ad ag a6 a4 a2 a3 af R w) : forkcheck_Proof_writers.M a1 aa ae ai ah ab ac a9 a7 aj a0 a5 a8 ad ag a6 a4 a2 a3 af R w := by
  unfold forkcheck_Proof_writers.M
  unfold forkcheck_Proof_writers.N at h
  refine thenW_in fun ak an => ?_
  have ao := Blk.of_new an
  have ap := ((Ext.refl no w)).size
  have al := (Ext.refl no w).x_alloc an
  refine ⟨a1, ao.celli 0 rfl rfl, ?_⟩
  refine ⟨a0, ao.celli 8 rfl rfl, ?_⟩
  refine bif_of (fun am => ?_) (fun am => ?_)
  · have h := h.1 (beq_t am)
    have h := h ak al
    exact h
  · have h := h.2 (beq_f am)
    have h := h ak al
    exact h

theorem forkcheck_Proof_writers.go (a5 : Int) (aa : Int) (ae : Int) (ai : Int) (ah : Int) (ab : Int) (ac : Option Addr) (a9 : Nat) (a7 : Nat) (aj : Int) (a0 : Int) (a4 : Int) (a8 : Int) (ad : Int) (ag : Int) (a6 : Int) (a3 : Option Addr) (a1 : Nat) (a2 : Nat) (af : Int) {R : Value → World → Prop} {w : World} (h : forkcheck_Proof_writers.N a5 aa ae ai ah ab ac a9 a7 aj a0 a4 a8 ad ag a6 a3 a1 a2 af R w) : Calls Try.prog 42 #[.agg #[.int .i64 a5, .int .i64 aa, .int .u64 ae, .int .i64 ai, .int .i64 ah, .int .i64 ab, .slice ac a9 a7, .int .u64 aj, .int .i64 a0, .int .i64 a4, .int .u64 a8, .int .i64 ad, .int .i64 ag, .int .i64 a6, .slice a3 a1 a2, .int .u64 af]] w fun e w' => ∃ v, e = .returned v ∧ R v w' := forkcheck_Proof_writers.ok a5 aa ae ai ah ab ac a9 a7 aj a0 a4 a8 ad ag a6 a3 a1 a2 af (forkcheck_Proof_writers.up a5 aa ae ai ah ab ac a9 a7 aj a0 a4 a8 ad ag a6 a3 a1 a2 af h)
theorem forkcheck_Proof_writers.run (a5 : Int) (aa : Int) (ae : Int) (ai : Int) (ah : Int) (ab : Int) (ac : Option Addr) (a9 : Nat) (a7 : Nat) (aj : Int) (a0 : Int) (a4 : Int) (a8 : Int) (ad : Int) (ag : Int) (a6 : Int) (a3 : Option Addr) (a1 : Nat) (a2 : Nat) (af : Int) {V : Value} {Q : World → Prop} {w : World} (h : forkcheck_Proof_writers.N a5 aa ae ai ah ab ac a9 a7 aj a0 a4 a8 ad ag a6 a3 a1 a2 af (fun v w' => v = V ∧ Q w') w) : Calls Try.prog 42 #[.agg #[.int .i64 a5, .int .i64 aa, .int .u64 ae, .int .i64 ai, .int .i64 ah, .int .i64 ab, .slice ac a9 a7, .int .u64 aj, .int .i64 a0, .int .i64 a4, .int .u64 a8, .int .i64 ad, .int .i64 ag, .int .i64 a6, .slice a3 a1 a2, .int .u64 af]] w (Ret V Q) := (forkcheck_Proof_writers.go a5 aa ae ai ah ab ac a9 a7 aj a0 a4 a8 ad ag a6 a3 a1 a2 af h).mono fun e w' ⟨v, he, hv, hq⟩ => ⟨by rw [he, hv], hq⟩

def forkcheck_Proof_writers.F (a1 : Int) (aa : Int) (ae : Int) (ai : Int) (ah : Int) (ab : Int) (ac : Option Addr) (a9 : Nat) (a7 : Nat) (aj : Int) (a0 : Int) (a5 : Int) (a8 : Int) (ad : Int) (ag : Int) (a6 : Int) (a4 : Option Addr) (a2 : Nat) (a3 : Nat) (af : Int) : Int :=
  if a1 = a0 then
    0
  else
    20
theorem forkcheck_Proof_writers.pure (a5 : Int) (aa : Int) (ae : Int) (ai : Int) (ah : Int) (ab : Int) (ac : Option Addr) (a9 : Nat) (a7 : Nat) (aj : Int) (a0 : Int) (a4 : Int) (a8 : Int) (ad : Int) (ag : Int) (a6 : Int) (a3 : Option Addr) (a1 : Nat) (a2 : Nat) (af : Int) {w : World} : Calls Try.prog 42 #[.agg #[.int .i64 a5, .int .i64 aa, .int .u64 ae, .int .i64 ai, .int .i64 ah, .int .i64 ab, .slice ac a9 a7, .int .u64 aj, .int .i64 a0, .int .i64 a4, .int .u64 a8, .int .i64 ad, .int .i64 ag, .int .i64 a6, .slice a3 a1 a2, .int .u64 af]] w (Ret (.int .i64 (forkcheck_Proof_writers.F a5 aa ae ai ah ab ac a9 a7 aj a0 a4 a8 ad ag a6 a3 a1 a2 af)) fun w' => Ext no w w') := by
  refine forkcheck_Proof_writers.run a5 aa ae ai ah ab ac a9 a7 aj a0 a4 a8 ad ag a6 a3 a1 a2 af ?_
  unfold forkcheck_Proof_writers.N
  refine ⟨fun c0 => ?_, fun c0 => ?_⟩
  · intro w' hx; exact ⟨by unfold forkcheck_Proof_writers.F; rw [if_pos c0], hx⟩
  · intro w' hx; exact ⟨by unfold forkcheck_Proof_writers.F; rw [if_neg c0], hx⟩

/-- (forkcheck.Proof).places -/
def forkcheck_Proof_places.M (a7 : Int) (ac : Int) (ah : Int) (al : Int) (ak : Int) (ad : Int) (ae : Option Addr) (ab : Nat) (a9 : Nat) (am : Int) (a2 : Int) (a6 : Int) (aa : Int) (af : Int) (aj : Int) (a8 : Int) (a5 : Option Addr) (a3 : Nat) (a4 : Nat) (ai : Int) (R : Value → World → Prop) (w : World) : Prop :=
 thenW (w.alloc (.cells #[.int .i64 a7, .int .i64 ac, .int .u64 ah, .int .i64 al, .int .i64 ak, .int .i64 ad, .slice ae ab a9, .int .u64 am, .int .i64 a2, .int .i64 a6, .int .u64 aa, .int .i64 af, .int .i64 aj, .int .i64 a8, .slice a5 a3 a4, .int .u64 ai] 44)) fun ag =>
 ∃ (a1 : Int), ag.cell? (((blk w.heap.size).add 0).add 1) = some (.int .i64 a1) ∧
 ∃ (a0 : Int), ag.cell? (((blk w.heap.size).add 8).add 1) = some (.int .i64 a0) ∧
 bif a1 == a0 then (
 R (.int .i64 0) ag) else (
 R (.int .i64 2) ag)

theorem forkcheck_Proof_places.eq (pAWriter1 : Int) (pAIndex2 : Int) (pAPrev3 : Int) (pAAtT4 : Int) (pAAtW5 : Int) (pAEpoch6 : Int) (pABody7a : Option Addr) (pABody7n : Nat) (pABody7c : Nat) (pASig8 : Int) (pBWriter9 : Int) (pBIndex10 : Int) (pBPrev11 : Int) (pBAtT12 : Int) (pBAtW13 : Int) (pBEpoch14 : Int) (pBBody15a : Option Addr) (pBBody15n : Nat) (pBBody15c : Nat) (pBSig16 : Int) (R : Value → World → Prop) (w : World) : mfunc Try.prog [] 43 [.agg #[.int .i64 pAWriter1, .int .i64 pAIndex2, .int .u64 pAPrev3, .int .i64 pAAtT4, .int .i64 pAAtW5, .int .i64 pAEpoch6, .slice pABody7a pABody7n pABody7c, .int .u64 pASig8, .int .i64 pBWriter9, .int .i64 pBIndex10, .int .u64 pBPrev11, .int .i64 pBAtT12, .int .i64 pBAtW13, .int .i64 pBEpoch14, .slice pBBody15a pBBody15n pBBody15c, .int .u64 pBSig16]] R w = forkcheck_Proof_places.M pAWriter1 pAIndex2 pAPrev3 pAAtT4 pAAtW5 pAEpoch6 pABody7a pABody7n pABody7c pASig8 pBWriter9 pBIndex10 pBPrev11 pBAtT12 pBAtW13 pBEpoch14 pBBody15a pBBody15n pBBody15c pBSig16 R w := by kernel_rfl
theorem forkcheck_Proof_places.ok (a5 : Int) (aa : Int) (ae : Int) (ai : Int) (ah : Int) (ab : Int) (ac : Option Addr) (a9 : Nat) (a7 : Nat) (aj : Int) (a0 : Int) (a4 : Int) (a8 : Int) (ad : Int) (ag : Int) (a6 : Int) (a3 : Option Addr) (a1 : Nat) (a2 : Nat) (af : Int) {R : Value → World → Prop} {w : World} (h : forkcheck_Proof_places.M a5 aa ae ai ah ab ac a9 a7 aj a0 a4 a8 ad ag a6 a3 a1 a2 af R w) : Calls Try.prog 43 #[.agg #[.int .i64 a5, .int .i64 aa, .int .u64 ae, .int .i64 ai, .int .i64 ah, .int .i64 ab, .slice ac a9 a7, .int .u64 aj, .int .i64 a0, .int .i64 a4, .int .u64 a8, .int .i64 ad, .int .i64 ag, .int .i64 a6, .slice a3 a1 a2, .int .u64 af]] w fun e w' => ∃ v, e = .returned v ∧ R v w' :=
  mfunc_ok follows (H := []) (args := [.agg #[.int .i64 a5, .int .i64 aa, .int .u64 ae, .int .i64 ai, .int .i64 ah, .int .i64 ab, .slice ac a9 a7, .int .u64 aj, .int .i64 a0, .int .i64 a4, .int .u64 a8, .int .i64 ad, .int .i64 ag, .int .i64 a6, .slice a3 a1 a2, .int .u64 af]]) (by rw [forkcheck_Proof_places.eq]; exact h)

def forkcheck_Proof_places.N (a7 : Int) (a1 : Int) (af : Int) (aj : Int) (ai : Int) (ac : Int) (ad : Option Addr) (ab : Nat) (a9 : Nat) (ak : Int) (a3 : Int) (a0 : Int) (aa : Int) (ae : Int) (ah : Int) (a8 : Int) (a6 : Option Addr) (a4 : Nat) (a5 : Nat) (ag : Int) (R : Value → World → Prop) (w : World) : Prop :=
 (a1 = a0 →
 ∀ (a2 : World), Ext no w a2 →
 R (.int .i64 0) a2) ∧
 (a1 ≠ a0 →
 ∀ (a2 : World), Ext no w a2 →
 R (.int .i64 2) a2)

theorem forkcheck_Proof_places.up (a6 : Int) (a1 : Int) (ae : Int) (ai : Int) (ah : Int) (ab : Int) (ac : Option Addr) (aa : Nat) (a8 : Nat) (aj : Int) (a2 : Int) (a0 : Int) (a9 : Int) (ad : Int) (ag : Int) (a7 : Int) (a5 : Option Addr) (a3 : Nat) (a4 : Nat) (af : Int) {R : Value → World → Prop} {w : World} (h : forkcheck_Proof_places.N a6 a1 ae ai ah ab ac aa a8 aj a2 a0 a9 ad ag a7 a5 a3 a4 af R w) : forkcheck_Proof_places.M a6 a1 ae ai ah ab ac aa a8 aj a2 a0 a9 ad ag a7 a5 a3 a4 af R w := by
  unfold forkcheck_Proof_places.M
  unfold forkcheck_Proof_places.N at h
  refine thenW_in fun ak an => ?_
  have ao := Blk.of_new an
  have ap := ((Ext.refl no w)).size
  have al := (Ext.refl no w).x_alloc an
  refine ⟨a1, ao.celli 1 rfl rfl, ?_⟩
  refine ⟨a0, ao.celli 9 rfl rfl, ?_⟩
  refine bif_of (fun am => ?_) (fun am => ?_)
  · have h := h.1 (beq_t am)
    have h := h ak al
    exact h
  · have h := h.2 (beq_f am)
    have h := h ak al
    exact h

theorem forkcheck_Proof_places.go (a5 : Int) (aa : Int) (ae : Int) (ai : Int) (ah : Int) (ab : Int) (ac : Option Addr) (a9 : Nat) (a7 : Nat) (aj : Int) (a0 : Int) (a4 : Int) (a8 : Int) (ad : Int) (ag : Int) (a6 : Int) (a3 : Option Addr) (a1 : Nat) (a2 : Nat) (af : Int) {R : Value → World → Prop} {w : World} (h : forkcheck_Proof_places.N a5 aa ae ai ah ab ac a9 a7 aj a0 a4 a8 ad ag a6 a3 a1 a2 af R w) : Calls Try.prog 43 #[.agg #[.int .i64 a5, .int .i64 aa, .int .u64 ae, .int .i64 ai, .int .i64 ah, .int .i64 ab, .slice ac a9 a7, .int .u64 aj, .int .i64 a0, .int .i64 a4, .int .u64 a8, .int .i64 ad, .int .i64 ag, .int .i64 a6, .slice a3 a1 a2, .int .u64 af]] w fun e w' => ∃ v, e = .returned v ∧ R v w' := forkcheck_Proof_places.ok a5 aa ae ai ah ab ac a9 a7 aj a0 a4 a8 ad ag a6 a3 a1 a2 af (forkcheck_Proof_places.up a5 aa ae ai ah ab ac a9 a7 aj a0 a4 a8 ad ag a6 a3 a1 a2 af h)
theorem forkcheck_Proof_places.run (a5 : Int) (aa : Int) (ae : Int) (ai : Int) (ah : Int) (ab : Int) (ac : Option Addr) (a9 : Nat) (a7 : Nat) (aj : Int) (a0 : Int) (a4 : Int) (a8 : Int) (ad : Int) (ag : Int) (a6 : Int) (a3 : Option Addr) (a1 : Nat) (a2 : Nat) (af : Int) {V : Value} {Q : World → Prop} {w : World} (h : forkcheck_Proof_places.N a5 aa ae ai ah ab ac a9 a7 aj a0 a4 a8 ad ag a6 a3 a1 a2 af (fun v w' => v = V ∧ Q w') w) : Calls Try.prog 43 #[.agg #[.int .i64 a5, .int .i64 aa, .int .u64 ae, .int .i64 ai, .int .i64 ah, .int .i64 ab, .slice ac a9 a7, .int .u64 aj, .int .i64 a0, .int .i64 a4, .int .u64 a8, .int .i64 ad, .int .i64 ag, .int .i64 a6, .slice a3 a1 a2, .int .u64 af]] w (Ret V Q) := (forkcheck_Proof_places.go a5 aa ae ai ah ab ac a9 a7 aj a0 a4 a8 ad ag a6 a3 a1 a2 af h).mono fun e w' ⟨v, he, hv, hq⟩ => ⟨by rw [he, hv], hq⟩

def forkcheck_Proof_places.F (a6 : Int) (a1 : Int) (ae : Int) (ai : Int) (ah : Int) (ab : Int) (ac : Option Addr) (aa : Nat) (a8 : Nat) (aj : Int) (a2 : Int) (a0 : Int) (a9 : Int) (ad : Int) (ag : Int) (a7 : Int) (a5 : Option Addr) (a3 : Nat) (a4 : Nat) (af : Int) : Int :=
  if a1 = a0 then
    0
  else
    2
theorem forkcheck_Proof_places.pure (a5 : Int) (aa : Int) (ae : Int) (ai : Int) (ah : Int) (ab : Int) (ac : Option Addr) (a9 : Nat) (a7 : Nat) (aj : Int) (a0 : Int) (a4 : Int) (a8 : Int) (ad : Int) (ag : Int) (a6 : Int) (a3 : Option Addr) (a1 : Nat) (a2 : Nat) (af : Int) {w : World} : Calls Try.prog 43 #[.agg #[.int .i64 a5, .int .i64 aa, .int .u64 ae, .int .i64 ai, .int .i64 ah, .int .i64 ab, .slice ac a9 a7, .int .u64 aj, .int .i64 a0, .int .i64 a4, .int .u64 a8, .int .i64 ad, .int .i64 ag, .int .i64 a6, .slice a3 a1 a2, .int .u64 af]] w (Ret (.int .i64 (forkcheck_Proof_places.F a5 aa ae ai ah ab ac a9 a7 aj a0 a4 a8 ad ag a6 a3 a1 a2 af)) fun w' => Ext no w w') := by
  refine forkcheck_Proof_places.run a5 aa ae ai ah ab ac a9 a7 aj a0 a4 a8 ad ag a6 a3 a1 a2 af ?_
  unfold forkcheck_Proof_places.N
  refine ⟨fun c0 => ?_, fun c0 => ?_⟩
  · intro w' hx; exact ⟨by unfold forkcheck_Proof_places.F; rw [if_pos c0], hx⟩
  · intro w' hx; exact ⟨by unfold forkcheck_Proof_places.F; rw [if_neg c0], hx⟩

/-- (forkcheck.Proof).apart -/
def forkcheck_Proof_apart.M (aj : Int) (av : Int) (b1 : Int) (b6 : Int) (b5 : Int) (ax : Int) (ay : Option Addr) (ar : Nat) (al : Nat) (b7 : Int) (ae : Int) (ai : Int) (ao : Int) (b0 : Int) (b3 : Int) (ak : Int) (ah : Option Addr) (af : Nat) (ag : Nat) (b2 : Int) (R : Value → World → Prop) (w : World) : Prop :=
 thenW (w.alloc (.cells #[.int .i64 aj, .int .i64 av, .int .u64 b1, .int .i64 b6, .int .i64 b5, .int .i64 ax, .slice ay ar al, .int .u64 b7, .int .i64 ae, .int .i64 ai, .int .u64 ao, .int .i64 b0, .int .i64 b3, .int .i64 ak, .slice ah af ag, .int .u64 b2] 44)) fun b4 =>
 ∃ (a0 : Int) (a2 : Int) (ac : Int) (au : Int) (aq : Int) (ab : Int) (a7 : Option Addr) (a8 : Nat) (a5 : Nat) (ap : Int), cellsAt b4 ((blk w.heap.size).add 0) [.int .i64 a0, .int .i64 a2, .int .u64 ac, .int .i64 au, .int .i64 aq, .int .i64 ab, .slice a7 a8 a5, .int .u64 ap] 0 ∧
 ∃ (a1 : Int) (a6 : Int) (ad : Int) (am : Int) (an : Int) (a4 : Int) (aa : Option Addr) (a3 : Nat) (a9 : Nat) (az : Int), cellsAt b4 ((blk w.heap.size).add 8) [.int .i64 a1, .int .i64 a6, .int .u64 ad, .int .i64 am, .int .i64 an, .int .i64 a4, .slice aa a3 a9, .int .u64 az] 0 ∧
 Calls Try.prog 38 #[.agg #[.int .i64 a0, .int .i64 a2, .int .u64 ac, .int .i64 au, .int .i64 aq, .int .i64 ab, .slice a7 a8 a5, .int .u64 ap], .agg #[.int .i64 a1, .int .i64 a6, .int .u64 ad, .int .i64 am, .int .i64 an, .int .i64 a4, .slice aa a3 a9, .int .u64 az]] b4 fun b9 b8 => ∃ (aw : Bool), b9 = .returned (.bool aw) ∧
 bif aw then (
 R (.int .i64 8) b8) else (
 R (.int .i64 0) b8)

theorem forkcheck_Proof_apart.eq (pAWriter1 : Int) (pAIndex2 : Int) (pAPrev3 : Int) (pAAtT4 : Int) (pAAtW5 : Int) (pAEpoch6 : Int) (pABody7a : Option Addr) (pABody7n : Nat) (pABody7c : Nat) (pASig8 : Int) (pBWriter9 : Int) (pBIndex10 : Int) (pBPrev11 : Int) (pBAtT12 : Int) (pBAtW13 : Int) (pBEpoch14 : Int) (pBBody15a : Option Addr) (pBBody15n : Nat) (pBBody15c : Nat) (pBSig16 : Int) (R : Value → World → Prop) (w : World) : mfunc Try.prog [] 44 [.agg #[.int .i64 pAWriter1, .int .i64 pAIndex2, .int .u64 pAPrev3, .int .i64 pAAtT4, .int .i64 pAAtW5, .int .i64 pAEpoch6, .slice pABody7a pABody7n pABody7c, .int .u64 pASig8, .int .i64 pBWriter9, .int .i64 pBIndex10, .int .u64 pBPrev11, .int .i64 pBAtT12, .int .i64 pBAtW13, .int .i64 pBEpoch14, .slice pBBody15a pBBody15n pBBody15c, .int .u64 pBSig16]] R w = forkcheck_Proof_apart.M pAWriter1 pAIndex2 pAPrev3 pAAtT4 pAAtW5 pAEpoch6 pABody7a pABody7n pABody7c pASig8 pBWriter9 pBIndex10 pBPrev11 pBAtT12 pBAtW13 pBEpoch14 pBBody15a pBBody15n pBBody15c pBSig16 R w := by kernel_rfl
theorem forkcheck_Proof_apart.ok (a5 : Int) (aa : Int) (ae : Int) (ai : Int) (ah : Int) (ab : Int) (ac : Option Addr) (a9 : Nat) (a7 : Nat) (aj : Int) (a0 : Int) (a4 : Int) (a8 : Int) (ad : Int) (ag : Int) (a6 : Int) (a3 : Option Addr) (a1 : Nat) (a2 : Nat) (af : Int) {R : Value → World → Prop} {w : World} (h : forkcheck_Proof_apart.M a5 aa ae ai ah ab ac a9 a7 aj a0 a4 a8 ad ag a6 a3 a1 a2 af R w) : Calls Try.prog 44 #[.agg #[.int .i64 a5, .int .i64 aa, .int .u64 ae, .int .i64 ai, .int .i64 ah, .int .i64 ab, .slice ac a9 a7, .int .u64 aj, .int .i64 a0, .int .i64 a4, .int .u64 a8, .int .i64 ad, .int .i64 ag, .int .i64 a6, .slice a3 a1 a2, .int .u64 af]] w fun e w' => ∃ v, e = .returned v ∧ R v w' :=
  mfunc_ok follows (H := []) (args := [.agg #[.int .i64 a5, .int .i64 aa, .int .u64 ae, .int .i64 ai, .int .i64 ah, .int .i64 ab, .slice ac a9 a7, .int .u64 aj, .int .i64 a0, .int .i64 a4, .int .u64 a8, .int .i64 ad, .int .i64 ag, .int .i64 a6, .slice a3 a1 a2, .int .u64 af]]) (by rw [forkcheck_Proof_apart.eq]; exact h)

def forkcheck_Proof_apart.N (a6 : Int) (ab : Int) (af : Int) (aj : Int) (ai : Int) (ac : Int) (ad : Option Addr) (aa : Nat) (a8 : Nat) (ak : Int) (a1 : Int) (a5 : Int) (a9 : Int) (ae : Int) (ah : Int) (a7 : Int) (a4 : Option Addr) (a2 : Nat) (a3 : Nat) (ag : Int) (R : Value → World → Prop) (w : World) : Prop :=
 ∀ (al : World), Ext no w al →
 Calls Try.prog 38 #[.agg #[.int .i64 a6, .int .i64 ab, .int .u64 af, .int .i64 aj, .int .i64 ai, .int .i64 ac, .slice ad aa a8, .int .u64 ak], .agg #[.int .i64 a1, .int .i64 a5, .int .u64 a9, .int .i64 ae, .int .i64 ah, .int .i64 a7, .slice a4 a2 a3, .int .u64 ag]] al fun an am => ∃ (a0 : Bool), an = .returned (.bool a0) ∧
 (a0 = true →
 R (.int .i64 8) am) ∧
 (a0 = false →
 R (.int .i64 0) am)

theorem forkcheck_Proof_apart.up (a5 : Int) (aa : Int) (ae : Int) (aj : Int) (ai : Int) (ab : Int) (ac : Option Addr) (a9 : Nat) (a7 : Nat) (ak : Int) (a0 : Int) (a4 : Int) (a8 : Int) (ad : Int) (ag : Int) (a6 : Int) (a3 : Option Addr) (a1 : Nat) (a2 : Nat) (af : Int) {R : Value → World → Prop} {w : World} (h : forkcheck_Proof_apart.N a5 aa ae aj ai ab ac a9 a7 ak a0 a4 a8 ad ag a6 a3 a1 a2 af R w) : forkcheck_Proof_apart.M a5 aa ae aj ai ab ac a9 a7 ak a0 a4 a8 ad ag a6 a3 a1 a2 af R w := by
  unfold forkcheck_Proof_apart.M
  unfold forkcheck_Proof_apart.N at h
  refine thenW_in fun an ap => ?_
  have ah := Blk.of_new ap
  have au := ((Ext.refl no w)).size
  have ao := (Ext.refl no w).x_alloc ap
  refine ⟨a5, aa, ae, aj, ai, ab, ac, a9, a7, ak, ⟨ah.celli 0 rfl rfl, ah.celli 1 rfl rfl, ah.celli 2 rfl rfl, ah.celli 3 rfl rfl, ah.celli 4 rfl rfl, ah.celli 5 rfl rfl, ah.celli 6 rfl rfl, ah.celli 7 rfl rfl, trivial⟩, ?_⟩
  refine ⟨a0, a4, a8, ad, ag, a6, a3, a1, a2, af, ⟨ah.celli 8 rfl rfl, ah.celli 9 rfl rfl, ah.celli 10 rfl rfl, ah.celli 11 rfl rfl, ah.celli 12 rfl rfl, ah.celli 13 rfl rfl, ah.celli 14 rfl rfl, ah.celli 15 rfl rfl, trivial⟩, ?_⟩
  have h := h an ao
  refine h.mono fun aq ar h => ?_
  obtain ⟨al, he, h⟩ := h
  refine ⟨al, he, ?_⟩
  refine bif_of (fun am => ?_) (fun am => ?_)
  · have h := h.1 am
    exact h
  · have h := h.2 am
    exact h

theorem forkcheck_Proof_apart.go (a5 : Int) (aa : Int) (ae : Int) (ai : Int) (ah : Int) (ab : Int) (ac : Option Addr) (a9 : Nat) (a7 : Nat) (aj : Int) (a0 : Int) (a4 : Int) (a8 : Int) (ad : Int) (ag : Int) (a6 : Int) (a3 : Option Addr) (a1 : Nat) (a2 : Nat) (af : Int) {R : Value → World → Prop} {w : World} (h : forkcheck_Proof_apart.N a5 aa ae ai ah ab ac a9 a7 aj a0 a4 a8 ad ag a6 a3 a1 a2 af R w) : Calls Try.prog 44 #[.agg #[.int .i64 a5, .int .i64 aa, .int .u64 ae, .int .i64 ai, .int .i64 ah, .int .i64 ab, .slice ac a9 a7, .int .u64 aj, .int .i64 a0, .int .i64 a4, .int .u64 a8, .int .i64 ad, .int .i64 ag, .int .i64 a6, .slice a3 a1 a2, .int .u64 af]] w fun e w' => ∃ v, e = .returned v ∧ R v w' := forkcheck_Proof_apart.ok a5 aa ae ai ah ab ac a9 a7 aj a0 a4 a8 ad ag a6 a3 a1 a2 af (forkcheck_Proof_apart.up a5 aa ae ai ah ab ac a9 a7 aj a0 a4 a8 ad ag a6 a3 a1 a2 af h)
theorem forkcheck_Proof_apart.run (a5 : Int) (aa : Int) (ae : Int) (ai : Int) (ah : Int) (ab : Int) (ac : Option Addr) (a9 : Nat) (a7 : Nat) (aj : Int) (a0 : Int) (a4 : Int) (a8 : Int) (ad : Int) (ag : Int) (a6 : Int) (a3 : Option Addr) (a1 : Nat) (a2 : Nat) (af : Int) {V : Value} {Q : World → Prop} {w : World} (h : forkcheck_Proof_apart.N a5 aa ae ai ah ab ac a9 a7 aj a0 a4 a8 ad ag a6 a3 a1 a2 af (fun v w' => v = V ∧ Q w') w) : Calls Try.prog 44 #[.agg #[.int .i64 a5, .int .i64 aa, .int .u64 ae, .int .i64 ai, .int .i64 ah, .int .i64 ab, .slice ac a9 a7, .int .u64 aj, .int .i64 a0, .int .i64 a4, .int .u64 a8, .int .i64 ad, .int .i64 ag, .int .i64 a6, .slice a3 a1 a2, .int .u64 af]] w (Ret V Q) := (forkcheck_Proof_apart.go a5 aa ae ai ah ab ac a9 a7 aj a0 a4 a8 ad ag a6 a3 a1 a2 af h).mono fun e w' ⟨v, he, hv, hq⟩ => ⟨by rw [he, hv], hq⟩

/-- forkcheck.Check -/
def forkcheck_Check.M (o1 : Option Addr) (bv : Int) (d9 : Int) (df : Int) (dl : Int) (dr : Int) (ds : Int) (db : Int) (de : Option Addr) (dc : Nat) (di : Nat) (dn : Int) (c8 : Int) (d7 : Int) (dh : Int) (dm : Int) (dj : Int) (d8 : Int) (d5 : Option Addr) (d4 : Nat) (d6 : Nat) (dk : Int) (R : Value → World → Prop) (w : World) : Prop :=
 thenW (w.alloc (.cells #[.int .i64 d9, .int .i64 df, .int .u64 dl, .int .i64 dr, .int .i64 ds, .int .i64 db, .slice de dc di, .int .u64 dn, .int .i64 c8, .int .i64 d7, .int .u64 dh, .int .i64 dm, .int .i64 dj, .int .i64 d8, .slice d5 d4 d6, .int .u64 dk] 44)) fun dd =>
 ∃ (a6 : Int) (ah : Int) (bz : Int) (cy : Int) (co : Int) (b7 : Int) (bl : Option Addr) (ak : Nat) (bb : Nat) (cw : Int) (a8 : Int) (bc : Int) (c2 : Int) (cf : Int) (cn : Int) (b2 : Int) (bq : Option Addr) (bg : Nat) (ap : Nat) (ci : Int), cellsAt dd (blk w.heap.size) [.int .i64 a6, .int .i64 ah, .int .u64 bz, .int .i64 cy, .int .i64 co, .int .i64 b7, .slice bl ak bb, .int .u64 cw, .int .i64 a8, .int .i64 bc, .int .u64 c2, .int .i64 cf, .int .i64 cn, .int .i64 b2, .slice bq bg ap, .int .u64 ci] 0 ∧
 ∃ (a2 : Int) (b9 : Int) (c3 : Int) (cz : Int) (cc : Int) (az : Int) (ae : Option Addr) (au : Nat) (am : Nat) (cd : Int) (aa : Int) (ad : Int) (c7 : Int) (ct : Int) (cj : Int) (aw : Int) (bj : Option Addr) (aq : Nat) (ax : Nat) (ce : Int), cellsAt dd (blk w.heap.size) [.int .i64 a2, .int .i64 b9, .int .u64 c3, .int .i64 cz, .int .i64 cc, .int .i64 az, .slice ae au am, .int .u64 cd, .int .i64 aa, .int .i64 ad, .int .u64 c7, .int .i64 ct, .int .i64 cj, .int .i64 aw, .slice bj aq ax, .int .u64 ce] 0 ∧
 ∃ (a9 : Int) (af : Int) (bx : Int) (ch : Int) (cg : Int) (bk : Int) (b8 : Option Addr) (br : Nat) (bm : Nat) (cb : Int) (ab : Int) (bh : Int) (c4 : Int) (ck : Int) (d0 : Int) (ar : Int) (bs : Option Addr) (al : Nat) (bf : Nat) (cp : Int), cellsAt dd (blk w.heap.size) [.int .i64 a9, .int .i64 af, .int .u64 bx, .int .i64 ch, .int .i64 cg, .int .i64 bk, .slice b8 br bm, .int .u64 cb, .int .i64 ab, .int .i64 bh, .int .u64 c4, .int .i64 ck, .int .i64 d0, .int .i64 ar, .slice bs al bf, .int .u64 cp] 0 ∧
 ∃ (ac : Int) (aj : Int) (bu : Int) (cx : Int) (ca : Int) (b4 : Int) (ao : Option Addr) (bp : Nat) (b6 : Nat) (d2 : Int) (a5 : Int) (av : Int) (bw : Int) (d1 : Int) (d3 : Int) (ay : Int) (bi : Option Addr) (b5 : Nat) (bd : Nat) (cv : Int), cellsAt dd (blk w.heap.size) [.int .i64 ac, .int .i64 aj, .int .u64 bu, .int .i64 cx, .int .i64 ca, .int .i64 b4, .slice ao bp b6, .int .u64 d2, .int .i64 a5, .int .i64 av, .int .u64 bw, .int .i64 d1, .int .i64 d3, .int .i64 ay, .slice bi b5 bd, .int .u64 cv] 0 ∧
 ∃ (I0 : Nat → List Value → World → Prop) (e7 : Nat), I0 e7 [.int .i64 0] dd ∧ ∀ (e0 : Nat) (c9 : World) (da : Int), I0 e0 [.int .i64 da] c9 →
 bif decide (da < 4) then (
 0 ≤ (da : Int) ∧ (da : Int) < (4 : Int) ∧
 ((da : Int) = 0 → 
 Calls Try.prog 41 #[.agg #[.int .i64 a6, .int .i64 ah, .int .u64 bz, .int .i64 cy, .int .i64 co, .int .i64 b7, .slice bl ak bb, .int .u64 cw, .int .i64 a8, .int .i64 bc, .int .u64 c2, .int .i64 cf, .int .i64 cn, .int .i64 b2, .slice bq bg ap, .int .u64 ci]] c9 fun e2 dw => ∃ (bt : Int), e2 = .returned (.int .i64 bt) ∧
 bif bt != 0 then (
 R (.int .i64 bt) dw) else (
 ∃ e6, e6 < e0 ∧ I0 e6 [.int .i64 (IntKind.i64.wrap (da + 1))] dw)) ∧
 ((da : Int) = 1 → 
 Calls Try.prog 42 #[.agg #[.int .i64 a2, .int .i64 b9, .int .u64 c3, .int .i64 cz, .int .i64 cc, .int .i64 az, .slice ae au am, .int .u64 cd, .int .i64 aa, .int .i64 ad, .int .u64 c7, .int .i64 ct, .int .i64 cj, .int .i64 aw, .slice bj aq ax, .int .u64 ce]] c9 fun e1 dz => ∃ (a0 : Int), e1 = .returned (.int .i64 a0) ∧
 bif a0 != 0 then (
 R (.int .i64 a0) dz) else (
 ∃ e4, e4 < e0 ∧ I0 e4 [.int .i64 (IntKind.i64.wrap (da + 1))] dz)) ∧
 ((da : Int) = 2 → 
 Calls Try.prog 43 #[.agg #[.int .i64 a9, .int .i64 af, .int .u64 bx, .int .i64 ch, .int .i64 cg, .int .i64 bk, .slice b8 br bm, .int .u64 cb, .int .i64 ab, .int .i64 bh, .int .u64 c4, .int .i64 ck, .int .i64 d0, .int .i64 ar, .slice bs al bf, .int .u64 cp]] c9 fun e3 dv => ∃ (a4 : Int), e3 = .returned (.int .i64 a4) ∧
 bif a4 != 0 then (
 R (.int .i64 a4) dv) else (
 ∃ e5, e5 < e0 ∧ I0 e5 [.int .i64 (IntKind.i64.wrap (da + 1))] dv)) ∧
 ((da : Int) = 3 → 
 Calls Try.prog 44 #[.agg #[.int .i64 ac, .int .i64 aj, .int .u64 bu, .int .i64 cx, .int .i64 ca, .int .i64 b4, .slice ao bp b6, .int .u64 d2, .int .i64 a5, .int .i64 av, .int .u64 bw, .int .i64 d1, .int .i64 d3, .int .i64 ay, .slice bi b5 bd, .int .u64 cv]] c9 fun dx dp => ∃ (a7 : Int), dx = .returned (.int .i64 a7) ∧
 bif a7 != 0 then (
 R (.int .i64 a7) dp) else (
 ∃ dt, dt < e0 ∧ I0 dt [.int .i64 (IntKind.i64.wrap (da + 1))] dp)) ∧ True) else (
 ∃ (a3 : Int) (bn : Int) (c1 : Int) (cl : Int) (cr : Int) (b1 : Int) (bo : Option Addr) (b3 : Nat) (ai : Nat) (cs : Int), cellsAt c9 ((blk w.heap.size).add 0) [.int .i64 a3, .int .i64 bn, .int .u64 c1, .int .i64 cl, .int .i64 cr, .int .i64 b1, .slice bo b3 ai, .int .u64 cs] 0 ∧
 Calls Try.prog 45 #[.pointer o1, .int .u64 bv, .agg #[.int .i64 a3, .int .i64 bn, .int .u64 c1, .int .i64 cl, .int .i64 cr, .int .i64 b1, .slice bo b3 ai, .int .u64 cs]] c9 fun du dg => ∃ (c0 : Bool), du = .returned (.bool c0) ∧
 bif !c0 then (
 R (.int .i64 6) dg) else (
 ∃ (a1 : Int) (be : Int) (c6 : Int) (cq : Int) (cm : Int) (an : Int) (ba : Option Addr) (ag : Nat) (b0 : Nat) (cu : Int), cellsAt dg ((blk w.heap.size).add 8) [.int .i64 a1, .int .i64 be, .int .u64 c6, .int .i64 cq, .int .i64 cm, .int .i64 an, .slice ba ag b0, .int .u64 cu] 0 ∧
 Calls Try.prog 45 #[.pointer o1, .int .u64 bv, .agg #[.int .i64 a1, .int .i64 be, .int .u64 c6, .int .i64 cq, .int .i64 cm, .int .i64 an, .slice ba ag b0, .int .u64 cu]] dg fun dy dq => ∃ (c5 : Bool), dy = .returned (.bool c5) ∧
 bif !c5 then (
 R (.int .i64 6) dq) else (
 R (.int .i64 0) dq)))

theorem forkcheck_Check.eq (o1 : Option Addr) (publicv2 : Int) (pAWriter3 : Int) (pAIndex4 : Int) (pAPrev5 : Int) (pAAtT6 : Int) (pAAtW7 : Int) (pAEpoch8 : Int) (pABody9a : Option Addr) (pABody9n : Nat) (pABody9c : Nat) (pASig10 : Int) (pBWriter11 : Int) (pBIndex12 : Int) (pBPrev13 : Int) (pBAtT14 : Int) (pBAtW15 : Int) (pBEpoch16 : Int) (pBBody17a : Option Addr) (pBBody17n : Nat) (pBBody17c : Nat) (pBSig18 : Int) (R : Value → World → Prop) (w : World) : mfunc Try.prog [(0, [0, 1, 5, 18], [(19, (.one (.int .i64)))])] 14 [.pointer o1, .int .u64 publicv2, .agg #[.int .i64 pAWriter3, .int .i64 pAIndex4, .int .u64 pAPrev5, .int .i64 pAAtT6, .int .i64 pAAtW7, .int .i64 pAEpoch8, .slice pABody9a pABody9n pABody9c, .int .u64 pASig10, .int .i64 pBWriter11, .int .i64 pBIndex12, .int .u64 pBPrev13, .int .i64 pBAtT14, .int .i64 pBAtW15, .int .i64 pBEpoch16, .slice pBBody17a pBBody17n pBBody17c, .int .u64 pBSig18]] R w = forkcheck_Check.M o1 publicv2 pAWriter3 pAIndex4 pAPrev5 pAAtT6 pAAtW7 pAEpoch8 pABody9a pABody9n pABody9c pASig10 pBWriter11 pBIndex12 pBPrev13 pBAtT14 pBAtW15 pBEpoch16 pBBody17a pBBody17n pBBody17c pBSig18 R w := by kernel_rfl
theorem forkcheck_Check.ok (o1 : Option Addr) (a9 : Int) (a5 : Int) (aa : Int) (ai : Int) (aj : Int) (ak : Int) (a8 : Int) (a7 : Option Addr) (ac : Nat) (ab : Nat) (ah : Int) (a0 : Int) (a4 : Int) (ad : Int) (ae : Int) (af : Int) (a1 : Int) (a3 : Option Addr) (a2 : Nat) (a6 : Nat) (ag : Int) {R : Value → World → Prop} {w : World} (h : forkcheck_Check.M o1 a9 a5 aa ai aj ak a8 a7 ac ab ah a0 a4 ad ae af a1 a3 a2 a6 ag R w) : Calls Try.prog 14 #[.pointer o1, .int .u64 a9, .agg #[.int .i64 a5, .int .i64 aa, .int .u64 ai, .int .i64 aj, .int .i64 ak, .int .i64 a8, .slice a7 ac ab, .int .u64 ah, .int .i64 a0, .int .i64 a4, .int .u64 ad, .int .i64 ae, .int .i64 af, .int .i64 a1, .slice a3 a2 a6, .int .u64 ag]] w fun e w' => ∃ v, e = .returned v ∧ R v w' :=
  mfunc_ok follows (H := [(0, [0, 1, 5, 18], [(19, (.one (.int .i64)))])]) (args := [.pointer o1, .int .u64 a9, .agg #[.int .i64 a5, .int .i64 aa, .int .u64 ai, .int .i64 aj, .int .i64 ak, .int .i64 a8, .slice a7 ac ab, .int .u64 ah, .int .i64 a0, .int .i64 a4, .int .u64 ad, .int .i64 ae, .int .i64 af, .int .i64 a1, .slice a3 a2 a6, .int .u64 ag]]) (by rw [forkcheck_Check.eq]; exact h)

def forkcheck_Check.N (o1 : Option Addr) (ap : Int) (a5 : Int) (a9 : Int) (ah : Int) (ai : Int) (aj : Int) (a8 : Int) (a7 : Option Addr) (ab : Nat) (aa : Nat) (ag : Int) (a0 : Int) (a4 : Int) (ac : Int) (ad : Int) (ae : Int) (a1 : Int) (a3 : Option Addr) (a2 : Nat) (a6 : Nat) (af : Int) (R : Value → World → Prop) (w : World) : Prop :=
 ∀ (ax : World) (b3 : Nat), Ext no w ax → Priv w ax [b3] →
 ∃ (I0 : Nat → List Value → World → Prop) (b8 : Nat), I0 b8 [.int .i64 0] ax ∧ ∀ (ay : Nat) (al : World) (am : Int), I0 ay [.int .i64 am] al →
 (am < 4 →
 0 ≤ (am : Int) ∧ (am : Int) < (4 : Int) ∧
 ((am : Int) = 0 →
 ((forkcheck_Proof_right.F a5 a9 ah ai aj a8 a7 ab aa ag a0 a4 ac ad ae a1 a3 a2 a6 af) ≠ 0 →
 ∀ (au : World), Ext no al au →
 R (.int .i64 (forkcheck_Proof_right.F a5 a9 ah ai aj a8 a7 ab aa ag a0 a4 ac ad ae a1 a3 a2 a6 af)) au) ∧
 ((forkcheck_Proof_right.F a5 a9 ah ai aj a8 a7 ab aa ag a0 a4 ac ad ae a1 a3 a2 a6 af) = 0 →
 (-9223372036854775808 : Int) ≤ (am + 1) ∧ (am + 1) < 9223372036854775808 ∧
 ∀ (au : World), Ext no al au →
 ∃ b7, b7 < ay ∧ I0 b7 [.int .i64 (am + 1)] au)) ∧
 ((am : Int) = 1 →
 ((forkcheck_Proof_writers.F a5 a9 ah ai aj a8 a7 ab aa ag a0 a4 ac ad ae a1 a3 a2 a6 af) ≠ 0 →
 ∀ (aq : World), Ext no al aq →
 R (.int .i64 (forkcheck_Proof_writers.F a5 a9 ah ai aj a8 a7 ab aa ag a0 a4 ac ad ae a1 a3 a2 a6 af)) aq) ∧
 ((forkcheck_Proof_writers.F a5 a9 ah ai aj a8 a7 ab aa ag a0 a4 ac ad ae a1 a3 a2 a6 af) = 0 →
 (-9223372036854775808 : Int) ≤ (am + 1) ∧ (am + 1) < 9223372036854775808 ∧
 ∀ (aq : World), Ext no al aq →
 ∃ b6, b6 < ay ∧ I0 b6 [.int .i64 (am + 1)] aq)) ∧
 ((am : Int) = 2 →
 ((forkcheck_Proof_places.F a5 a9 ah ai aj a8 a7 ab aa ag a0 a4 ac ad ae a1 a3 a2 a6 af) ≠ 0 →
 ∀ (ar : World), Ext no al ar →
 R (.int .i64 (forkcheck_Proof_places.F a5 a9 ah ai aj a8 a7 ab aa ag a0 a4 ac ad ae a1 a3 a2 a6 af)) ar) ∧
 ((forkcheck_Proof_places.F a5 a9 ah ai aj a8 a7 ab aa ag a0 a4 ac ad ae a1 a3 a2 a6 af) = 0 →
 (-9223372036854775808 : Int) ≤ (am + 1) ∧ (am + 1) < 9223372036854775808 ∧
 ∀ (ar : World), Ext no al ar →
 ∃ b4, b4 < ay ∧ I0 b4 [.int .i64 (am + 1)] ar)) ∧
 ((am : Int) = 3 →
 Calls Try.prog 44 #[.agg #[.int .i64 a5, .int .i64 a9, .int .u64 ah, .int .i64 ai, .int .i64 aj, .int .i64 a8, .slice a7 ab aa, .int .u64 ag, .int .i64 a0, .int .i64 a4, .int .u64 ac, .int .i64 ad, .int .i64 ae, .int .i64 a1, .slice a3 a2 a6, .int .u64 af]] al fun b0 av => ∃ (ak : Int), b0 = .returned (.int .i64 ak) ∧
 Keep [b3] al av ∧
 (ak ≠ 0 →
 R (.int .i64 ak) av) ∧
 (ak = 0 →
 (-9223372036854775808 : Int) ≤ (am + 1) ∧ (am + 1) < 9223372036854775808 ∧
 ∃ b5, b5 < ay ∧ I0 b5 [.int .i64 (am + 1)] av))) ∧
 ((4 : Int) ≤ am →
 Calls Try.prog 45 #[.pointer o1, .int .u64 ap, .agg #[.int .i64 a5, .int .i64 a9, .int .u64 ah, .int .i64 ai, .int .i64 aj, .int .i64 a8, .slice a7 ab aa, .int .u64 ag]] al fun b2 aw => ∃ (an : Bool), b2 = .returned (.bool an) ∧
 Keep [b3] al aw ∧
 (an = false →
 R (.int .i64 6) aw) ∧
 (an = true →
 Calls Try.prog 45 #[.pointer o1, .int .u64 ap, .agg #[.int .i64 a0, .int .i64 a4, .int .u64 ac, .int .i64 ad, .int .i64 ae, .int .i64 a1, .slice a3 a2 a6, .int .u64 af]] aw fun b1 az => ∃ (ao : Bool), b1 = .returned (.bool ao) ∧
 (ao = false →
 R (.int .i64 6) az) ∧
 (ao = true →
 R (.int .i64 0) az)))

theorem forkcheck_Check.up (o1 : Option Addr) (al : Int) (a5 : Int) (aa : Int) (ai : Int) (aj : Int) (ak : Int) (a9 : Int) (a8 : Option Addr) (ac : Nat) (ab : Nat) (ah : Int) (a0 : Int) (a4 : Int) (ad : Int) (ae : Int) (af : Int) (a1 : Int) (a3 : Option Addr) (a2 : Nat) (a6 : Nat) (ag : Int) {R : Value → World → Prop} {w : World} (h : forkcheck_Check.N o1 al a5 aa ai aj ak a9 a8 ac ab ah a0 a4 ad ae af a1 a3 a2 a6 ag R w) : forkcheck_Check.M o1 al a5 aa ai aj ak a9 a8 ac ab ah a0 a4 ad ae af a1 a3 a2 a6 ag R w := by
  unfold forkcheck_Check.M
  unfold forkcheck_Check.N at h
  refine thenW_in fun b5 b6 => ?_
  have a7 := Blk.of_new b6
  have b7 := ((Ext.refl no w)).size
  have b2 := (Ext.refl no w).x_alloc b6
  refine ⟨a5, aa, ai, aj, ak, a9, a8, ac, ab, ah, a0, a4, ad, ae, af, a1, a3, a2, a6, ag, ⟨a7.celli 0 rfl rfl, a7.celli 1 rfl rfl, a7.celli 2 rfl rfl, a7.celli 3 rfl rfl, a7.celli 4 rfl rfl, a7.celli 5 rfl rfl, a7.celli 6 rfl rfl, a7.celli 7 rfl rfl, a7.celli 8 rfl rfl, a7.celli 9 rfl rfl, a7.celli 10 rfl rfl, a7.celli 11 rfl rfl, a7.celli 12 rfl rfl, a7.celli 13 rfl rfl, a7.celli 14 rfl rfl, a7.celli 15 rfl rfl, trivial⟩, ?_⟩
  refine ⟨a5, aa, ai, aj, ak, a9, a8, ac, ab, ah, a0, a4, ad, ae, af, a1, a3, a2, a6, ag, ⟨a7.celli 0 rfl rfl, a7.celli 1 rfl rfl, a7.celli 2 rfl rfl, a7.celli 3 rfl rfl, a7.celli 4 rfl rfl, a7.celli 5 rfl rfl, a7.celli 6 rfl rfl, a7.celli 7 rfl rfl, a7.celli 8 rfl rfl, a7.celli 9 rfl rfl, a7.celli 10 rfl rfl, a7.celli 11 rfl rfl, a7.celli 12 rfl rfl, a7.celli 13 rfl rfl, a7.celli 14 rfl rfl, a7.celli 15 rfl rfl, trivial⟩, ?_⟩
  refine ⟨a5, aa, ai, aj, ak, a9, a8, ac, ab, ah, a0, a4, ad, ae, af, a1, a3, a2, a6, ag, ⟨a7.celli 0 rfl rfl, a7.celli 1 rfl rfl, a7.celli 2 rfl rfl, a7.celli 3 rfl rfl, a7.celli 4 rfl rfl, a7.celli 5 rfl rfl, a7.celli 6 rfl rfl, a7.celli 7 rfl rfl, a7.celli 8 rfl rfl, a7.celli 9 rfl rfl, a7.celli 10 rfl rfl, a7.celli 11 rfl rfl, a7.celli 12 rfl rfl, a7.celli 13 rfl rfl, a7.celli 14 rfl rfl, a7.celli 15 rfl rfl, trivial⟩, ?_⟩
  refine ⟨a5, aa, ai, aj, ak, a9, a8, ac, ab, ah, a0, a4, ad, ae, af, a1, a3, a2, a6, ag, ⟨a7.celli 0 rfl rfl, a7.celli 1 rfl rfl, a7.celli 2 rfl rfl, a7.celli 3 rfl rfl, a7.celli 4 rfl rfl, a7.celli 5 rfl rfl, a7.celli 6 rfl rfl, a7.celli 7 rfl rfl, a7.celli 8 rfl rfl, a7.celli 9 rfl rfl, a7.celli 10 rfl rfl, a7.celli 11 rfl rfl, a7.celli 12 rfl rfl, a7.celli 13 rfl rfl, a7.celli 14 rfl rfl, a7.celli 15 rfl rfl, trivial⟩, ?_⟩
  have h := h b5 (w.heap.size) b2 (Priv.cons b7 a7.lt Priv.nil)
  obtain ⟨I0, ba, h0, h⟩ := h
  refine ⟨fun k vs ww => Blk ww w.heap.size 44 [.int .i64 a5, .int .i64 aa, .int .u64 ai, .int .i64 aj, .int .i64 ak, .int .i64 a9, .slice a8 ac ab, .int .u64 ah, .int .i64 a0, .int .i64 a4, .int .u64 ad, .int .i64 ae, .int .i64 af, .int .i64 a1, .slice a3 a2 a6, .int .u64 ag] ∧ I0 k vs ww, ba, ⟨a7, h0⟩, fun bh an bg hI => ?_⟩
  obtain ⟨a7, hI⟩ := hI
  have h := h bh an bg hI
  refine bif_of (fun ay => ?_) (fun ay => ?_)
  · have h := h.1 (of_decide_eq_true ay)
    obtain ⟨b9, bi, h⟩ := h
    refine ⟨b9, bi, ?_⟩
    refine ⟨fun hk => ?_, fun hk => ?_, fun hk => ?_, fun hk => ?_, trivial⟩
    · have h := h.1 hk
      refine (forkcheck_Proof_right.pure a5 aa ai aj ak a9 a8 ac ab ah a0 a4 ad ae af a1 a3 a2 a6 ag).mono fun ee ww26 ⟨he, hxx⟩ => ⟨(forkcheck_Proof_right.F a5 aa ai aj ak a9 a8 ac ab ah a0 a4 ad ae af a1 a3 a2 a6 ag), he, ?_⟩
      have au := (Ext.refl no an).trans hxx
      have a7 := a7.ext hxx id
      refine bif_of (fun ax => ?_) (fun ax => ?_)
      · have h := h.1 (bne_t ax)
        have h := h ww26 au
        exact h
      · have h := h.2 (bne_f ax)
        obtain ⟨aq, ar, h⟩ := h
        try rw [w64 aq ar]
        have h := h ww26 au
        obtain ⟨bl, hk, h⟩ := h
        exact ⟨bl, hk, a7, h⟩
    · have h := h.2.1 hk
      refine (forkcheck_Proof_writers.pure a5 aa ai aj ak a9 a8 ac ab ah a0 a4 ad ae af a1 a3 a2 a6 ag).mono fun ee ww29 ⟨he, hxx⟩ => ⟨(forkcheck_Proof_writers.F a5 aa ai aj ak a9 a8 ac ab ah a0 a4 ad ae af a1 a3 a2 a6 ag), he, ?_⟩
      have av := (Ext.refl no an).trans hxx
      have a7 := a7.ext hxx id
      refine bif_of (fun b1 => ?_) (fun b1 => ?_)
      · have h := h.1 (bne_t b1)
        have h := h ww29 av
        exact h
      · have h := h.2 (bne_f b1)
        obtain ⟨aq, ar, h⟩ := h
        try rw [w64 aq ar]
        have h := h ww29 av
        obtain ⟨bj, hk, h⟩ := h
        exact ⟨bj, hk, a7, h⟩
    · have h := h.2.2.1 hk
      refine (forkcheck_Proof_places.pure a5 aa ai aj ak a9 a8 ac ab ah a0 a4 ad ae af a1 a3 a2 a6 ag).mono fun ee ww32 ⟨he, hxx⟩ => ⟨(forkcheck_Proof_places.F a5 aa ai aj ak a9 a8 ac ab ah a0 a4 ad ae af a1 a3 a2 a6 ag), he, ?_⟩
      have aw := (Ext.refl no an).trans hxx
      have a7 := a7.ext hxx id
      refine bif_of (fun b0 => ?_) (fun b0 => ?_)
      · have h := h.1 (bne_t b0)
        have h := h ww32 aw
        exact h
      · have h := h.2 (bne_f b0)
        obtain ⟨aq, ar, h⟩ := h
        try rw [w64 aq ar]
        have h := h ww32 aw
        obtain ⟨bc, hk, h⟩ := h
        exact ⟨bc, hk, a7, h⟩
    · have h := h.2.2.2 hk
      refine h.mono fun bb b8 h => ?_
      obtain ⟨ap, he, hk, h⟩ := h
      refine ⟨ap, he, ?_⟩
      have a7 := hk.blk a7 (by simp)
      refine bif_of (fun b3 => ?_) (fun b3 => ?_)
      · have h := h.1 (bne_t b3)
        exact h
      · have h := h.2 (bne_f b3)
        obtain ⟨aq, ar, h⟩ := h
        try rw [w64 aq ar]
        obtain ⟨bf, hk, h⟩ := h
        exact ⟨bf, hk, a7, h⟩
  · have h := h.2 (Int.not_lt.1 (of_decide_eq_false ay))
    refine ⟨a5, aa, ai, aj, ak, a9, a8, ac, ab, ah, ⟨a7.celli 0 rfl rfl, a7.celli 1 rfl rfl, a7.celli 2 rfl rfl, a7.celli 3 rfl rfl, a7.celli 4 rfl rfl, a7.celli 5 rfl rfl, a7.celli 6 rfl rfl, a7.celli 7 rfl rfl, trivial⟩, ?_⟩
    refine h.mono fun be bm h => ?_
    obtain ⟨am, he, hk, h⟩ := h
    refine ⟨am, he, ?_⟩
    have a7 := hk.blk a7 (by simp)
    refine bif_of (fun b4 => ?_) (fun b4 => ?_)
    · have h := h.1 (not_t b4)
      exact h
    · have h := h.2 (not_f b4)
      refine ⟨a0, a4, ad, ae, af, a1, a3, a2, a6, ag, ⟨a7.celli 8 rfl rfl, a7.celli 9 rfl rfl, a7.celli 10 rfl rfl, a7.celli 11 rfl rfl, a7.celli 12 rfl rfl, a7.celli 13 rfl rfl, a7.celli 14 rfl rfl, a7.celli 15 rfl rfl, trivial⟩, ?_⟩
      refine h.mono fun bd bk h => ?_
      obtain ⟨ao, he, h⟩ := h
      refine ⟨ao, he, ?_⟩
      refine bif_of (fun az => ?_) (fun az => ?_)
      · have h := h.1 (not_t az)
        exact h
      · have h := h.2 (not_f az)
        exact h

theorem forkcheck_Check.go (o1 : Option Addr) (a9 : Int) (a5 : Int) (aa : Int) (ai : Int) (aj : Int) (ak : Int) (a8 : Int) (a7 : Option Addr) (ac : Nat) (ab : Nat) (ah : Int) (a0 : Int) (a4 : Int) (ad : Int) (ae : Int) (af : Int) (a1 : Int) (a3 : Option Addr) (a2 : Nat) (a6 : Nat) (ag : Int) {R : Value → World → Prop} {w : World} (h : forkcheck_Check.N o1 a9 a5 aa ai aj ak a8 a7 ac ab ah a0 a4 ad ae af a1 a3 a2 a6 ag R w) : Calls Try.prog 14 #[.pointer o1, .int .u64 a9, .agg #[.int .i64 a5, .int .i64 aa, .int .u64 ai, .int .i64 aj, .int .i64 ak, .int .i64 a8, .slice a7 ac ab, .int .u64 ah, .int .i64 a0, .int .i64 a4, .int .u64 ad, .int .i64 ae, .int .i64 af, .int .i64 a1, .slice a3 a2 a6, .int .u64 ag]] w fun e w' => ∃ v, e = .returned v ∧ R v w' := forkcheck_Check.ok o1 a9 a5 aa ai aj ak a8 a7 ac ab ah a0 a4 ad ae af a1 a3 a2 a6 ag (forkcheck_Check.up o1 a9 a5 aa ai aj ak a8 a7 ac ab ah a0 a4 ad ae af a1 a3 a2 a6 ag h)
theorem forkcheck_Check.run (o1 : Option Addr) (a9 : Int) (a5 : Int) (aa : Int) (ai : Int) (aj : Int) (ak : Int) (a8 : Int) (a7 : Option Addr) (ac : Nat) (ab : Nat) (ah : Int) (a0 : Int) (a4 : Int) (ad : Int) (ae : Int) (af : Int) (a1 : Int) (a3 : Option Addr) (a2 : Nat) (a6 : Nat) (ag : Int) {V : Value} {Q : World → Prop} {w : World} (h : forkcheck_Check.N o1 a9 a5 aa ai aj ak a8 a7 ac ab ah a0 a4 ad ae af a1 a3 a2 a6 ag (fun v w' => v = V ∧ Q w') w) : Calls Try.prog 14 #[.pointer o1, .int .u64 a9, .agg #[.int .i64 a5, .int .i64 aa, .int .u64 ai, .int .i64 aj, .int .i64 ak, .int .i64 a8, .slice a7 ac ab, .int .u64 ah, .int .i64 a0, .int .i64 a4, .int .u64 ad, .int .i64 ae, .int .i64 af, .int .i64 a1, .slice a3 a2 a6, .int .u64 ag]] w (Ret V Q) := (forkcheck_Check.go o1 a9 a5 aa ai aj ak a8 a7 ac ab ah a0 a4 ad ae af a1 a3 a2 a6 ag h).mono fun e w' ⟨v, he, hv, hq⟩ => ⟨by rw [he, hv], hq⟩

/-- forkcheck.own -/
def forkcheck_own.M (aq : Int) (ay : Int) (az : Int) (b1 : Int) (b3 : Int) (aw : Int) (ax : Option Addr) (av : Nat) (au : Nat) (b4 : Int) (R : Value → World → Prop) (w : World) : Prop :=
 thenW (w.alloc (.cells #[.int .i64 aq, .int .i64 ay, .int .u64 az, .int .i64 b1, .int .i64 b3, .int .i64 aw, .slice ax av au, .int .u64 b4] 29)) fun a8 =>
 thenW (a8.alloc (.cells #[.int .i64 0, .int .i64 0, .int .u64 0, .int .i64 0, .int .i64 0, .int .i64 0, .slice none 0 0, .int .u64 0] 29)) fun b6 =>
 ∃ (am : Option Addr) (an : Nat) (ak : Nat), b6.cell? ((blk w.heap.size).add 6) = some (.slice am an ak) ∧
 Calls Try.prog 70 #[.slice am an ak] b6 fun be bc => ∃ (ab : Option Addr) (a9 : Nat) (af : Nat), be = .returned (.slice ab a9 af) ∧
 canStore bc (((blk w.heap.size).add 6).add 0) ∧
 thenW (bc.setCell (((blk w.heap.size).add 6).add 0) (.slice ab a9 af)) fun b0 =>
 ∃ (a6 : Int) (ae : Int) (al : Int) (ao : Int) (ap : Int) (ad : Int) (ai : Option Addr) (ah : Nat) (aj : Nat) (ar : Int), cellsAt b0 (blk w.heap.size) [.int .i64 a6, .int .i64 ae, .int .u64 al, .int .i64 ao, .int .i64 ap, .int .i64 ad, .slice ai ah aj, .int .u64 ar] 0 ∧
 canStore b0 ((blk a8.heap.size).add 0) ∧
 thenW (b0.setCell ((blk a8.heap.size).add 0) (.int .i64 a6)) fun b8 =>
 canStore b8 ((blk a8.heap.size).add 1) ∧
 thenW (b8.setCell ((blk a8.heap.size).add 1) (.int .i64 ae)) fun b9 =>
 canStore b9 ((blk a8.heap.size).add 2) ∧
 thenW (b9.setCell ((blk a8.heap.size).add 2) (.int .u64 al)) fun bd =>
 canStore bd ((blk a8.heap.size).add 3) ∧
 thenW (bd.setCell ((blk a8.heap.size).add 3) (.int .i64 ao)) fun ba =>
 canStore ba ((blk a8.heap.size).add 4) ∧
 thenW (ba.setCell ((blk a8.heap.size).add 4) (.int .i64 ap)) fun b7 =>
 canStore b7 ((blk a8.heap.size).add 5) ∧
 thenW (b7.setCell ((blk a8.heap.size).add 5) (.int .i64 ad)) fun b2 =>
 canStore b2 ((blk a8.heap.size).add 6) ∧
 thenW (b2.setCell ((blk a8.heap.size).add 6) (.slice ai ah aj)) fun b5 =>
 canStore b5 ((blk a8.heap.size).add 7) ∧
 thenW (b5.setCell ((blk a8.heap.size).add 7) (.int .u64 ar)) fun bb =>
 ∃ (a0 : Int) (a2 : Int) (a7 : Int) (aa : Int) (ac : Int) (a1 : Int) (a5 : Option Addr) (a3 : Nat) (a4 : Nat) (ag : Int), cellsAt bb (blk a8.heap.size) [.int .i64 a0, .int .i64 a2, .int .u64 a7, .int .i64 aa, .int .i64 ac, .int .i64 a1, .slice a5 a3 a4, .int .u64 ag] 0 ∧
 R (.agg #[.int .i64 a0, .int .i64 a2, .int .u64 a7, .int .i64 aa, .int .i64 ac, .int .i64 a1, .slice a5 a3 a4, .int .u64 ag]) bb

theorem forkcheck_own.eq (eWriter1 : Int) (eIndex2 : Int) (ePrev3 : Int) (eAtT4 : Int) (eAtW5 : Int) (eEpoch6 : Int) (eBody7a : Option Addr) (eBody7n : Nat) (eBody7c : Nat) (eSig8 : Int) (R : Value → World → Prop) (w : World) : mfunc Try.prog [] 39 [.agg #[.int .i64 eWriter1, .int .i64 eIndex2, .int .u64 ePrev3, .int .i64 eAtT4, .int .i64 eAtW5, .int .i64 eEpoch6, .slice eBody7a eBody7n eBody7c, .int .u64 eSig8]] R w = forkcheck_own.M eWriter1 eIndex2 ePrev3 eAtT4 eAtW5 eEpoch6 eBody7a eBody7n eBody7c eSig8 R w := by kernel_rfl
theorem forkcheck_own.ok (a0 : Int) (a4 : Int) (a6 : Int) (a7 : Int) (a8 : Int) (a1 : Int) (a3 : Option Addr) (a2 : Nat) (a5 : Nat) (a9 : Int) {R : Value → World → Prop} {w : World} (h : forkcheck_own.M a0 a4 a6 a7 a8 a1 a3 a2 a5 a9 R w) : Calls Try.prog 39 #[.agg #[.int .i64 a0, .int .i64 a4, .int .u64 a6, .int .i64 a7, .int .i64 a8, .int .i64 a1, .slice a3 a2 a5, .int .u64 a9]] w fun e w' => ∃ v, e = .returned v ∧ R v w' :=
  mfunc_ok follows (H := []) (args := [.agg #[.int .i64 a0, .int .i64 a4, .int .u64 a6, .int .i64 a7, .int .i64 a8, .int .i64 a1, .slice a3 a2 a5, .int .u64 a9]]) (by rw [forkcheck_own.eq]; exact h)

def forkcheck_own.N (a3 : Int) (a9 : Int) (aa : Int) (ab : Int) (ac : Int) (a7 : Int) (a8 : Option Addr) (a5 : Nat) (a4 : Nat) (ad : Int) (R : Value → World → Prop) (w : World) : Prop :=
 ∀ (a6 : World) (ai : Nat) (ah : Nat), Ext no w a6 → Priv w a6 [ai, ah] →
 Calls Try.prog 70 #[.slice a8 a5 a4] a6 fun ag af => ∃ (a2 : Option Addr) (a0 : Nat) (a1 : Nat), ag = .returned (.slice a2 a0 a1) ∧
 Keep [ai, ah] a6 af ∧
 ∀ (ae : World), Ext (fun b => b = ah ∨ b = ai) af ae →
 R (.agg #[.int .i64 a3, .int .i64 a9, .int .u64 aa, .int .i64 ab, .int .i64 ac, .int .i64 a7, .slice a2 a0 a1, .int .u64 ad]) ae

theorem forkcheck_own.up (a0 : Int) (a1 : Int) (a2 : Int) (a8 : Int) (a9 : Int) (a3 : Int) (ad : Option Addr) (ac : Nat) (ab : Nat) (aa : Int) {R : Value → World → Prop} {w : World} (h : forkcheck_own.N a0 a1 a2 a8 a9 a3 ad ac ab aa R w) : forkcheck_own.M a0 a1 a2 a8 a9 a3 ad ac ab aa R w := by
  unfold forkcheck_own.M
  unfold forkcheck_own.N at h
  refine thenW_in fun af e9 => ?_
  have ae := Blk.of_new e9
  have bh := ((Ext.refl no w)).size
  have bd := (Ext.refl no w).x_alloc e9
  refine thenW_in fun ar b0 => ?_
  have a7 := Blk.of_new b0
  have bj := (bd).size
  have aj := Nat.ne_of_lt ae.lt
  have ae := ae.x_alloc b0
  have al := bd.x_alloc b0
  refine ⟨ad, ac, ab, ae.celli 6 rfl rfl, ?_⟩
  have h := h ar (w.heap.size) (af.heap.size) al (Priv.cons bh ae.lt (Priv.cons bj a7.lt Priv.nil))
  refine h.mono fun bi ag h => ?_
  obtain ⟨a6, a4, a5, he, hk, h⟩ := h
  refine ⟨a6, a4, a5, he, ?_⟩
  have ae := hk.blk ae (by simp)
  have a7 := hk.blk a7 (by simp)
  have ao : Ext (fun b => b = w.heap.size) ag ag := ((Ext.refl no ag)).none
  refine ⟨ae.cani 6 rfl rfl, thenW_in fun ah ay => ?_⟩
  have b1 := ao.x_set (q := w.heap.size) (i := 6) rfl (.inl rfl) ay
  have ae : Blk ah w.heap.size 29 [.int .i64 a0, .int .i64 a1, .int .u64 a2, .int .i64 a8, .int .i64 a9, .int .i64 a3, .slice a6 a4 a5, .int .u64 aa] := ae.seti 6 rfl ay
  have a7 := a7.oth (q := w.heap.size) (i := 6) rfl (Ne.symm aj) ay
  refine ⟨a0, a1, a2, a8, a9, a3, a6, a4, a5, aa, ⟨ae.celli 0 rfl rfl, ae.celli 1 rfl rfl, ae.celli 2 rfl rfl, ae.celli 3 rfl rfl, ae.celli 4 rfl rfl, ae.celli 5 rfl rfl, ae.celli 6 rfl rfl, ae.celli 7 rfl rfl, trivial⟩, ?_⟩
  have an : Ext (fun b => b = af.heap.size ∨ b = w.heap.size) ag ah := (b1).mono fun _ h _ => .inr h
  refine ⟨a7.cani 0 rfl rfl, thenW_in fun ap b8 => ?_⟩
  have b2 := an.x_set (q := af.heap.size) (i := 0) rfl (.inl (.inl rfl)) b8
  have a7 : Blk ap af.heap.size 29 [.int .i64 a0, .int .i64 0, .int .u64 0, .int .i64 0, .int .i64 0, .int .i64 0, .slice none 0 0, .int .u64 0] := a7.seti 0 rfl b8
  refine ⟨a7.cani 1 rfl rfl, thenW_in fun b4 bf => ?_⟩
  have ak := b2.x_set (q := af.heap.size) (i := 1) rfl (.inl (.inl rfl)) bf
  have a7 : Blk b4 af.heap.size 29 [.int .i64 a0, .int .i64 a1, .int .u64 0, .int .i64 0, .int .i64 0, .int .i64 0, .slice none 0 0, .int .u64 0] := a7.seti 1 rfl bf
  refine ⟨a7.cani 2 rfl rfl, thenW_in fun b7 bb => ?_⟩
  have b3 := ak.x_set (q := af.heap.size) (i := 2) rfl (.inl (.inl rfl)) bb
  have a7 : Blk b7 af.heap.size 29 [.int .i64 a0, .int .i64 a1, .int .u64 a2, .int .i64 0, .int .i64 0, .int .i64 0, .slice none 0 0, .int .u64 0] := a7.seti 2 rfl bb
  refine ⟨a7.cani 3 rfl rfl, thenW_in fun ax bg => ?_⟩
  have az := b3.x_set (q := af.heap.size) (i := 3) rfl (.inl (.inl rfl)) bg
  have a7 : Blk ax af.heap.size 29 [.int .i64 a0, .int .i64 a1, .int .u64 a2, .int .i64 a8, .int .i64 0, .int .i64 0, .slice none 0 0, .int .u64 0] := a7.seti 3 rfl bg
  refine ⟨a7.cani 4 rfl rfl, thenW_in fun au bc => ?_⟩
  have aw := az.x_set (q := af.heap.size) (i := 4) rfl (.inl (.inl rfl)) bc
  have a7 : Blk au af.heap.size 29 [.int .i64 a0, .int .i64 a1, .int .u64 a2, .int .i64 a8, .int .i64 a9, .int .i64 0, .slice none 0 0, .int .u64 0] := a7.seti 4 rfl bc
  refine ⟨a7.cani 5 rfl rfl, thenW_in fun b6 b9 => ?_⟩
  have av := aw.x_set (q := af.heap.size) (i := 5) rfl (.inl (.inl rfl)) b9
  have a7 : Blk b6 af.heap.size 29 [.int .i64 a0, .int .i64 a1, .int .u64 a2, .int .i64 a8, .int .i64 a9, .int .i64 a3, .slice none 0 0, .int .u64 0] := a7.seti 5 rfl b9
  refine ⟨a7.cani 6 rfl rfl, thenW_in fun aq ba => ?_⟩
  have b5 := av.x_set (q := af.heap.size) (i := 6) rfl (.inl (.inl rfl)) ba
  have a7 : Blk aq af.heap.size 29 [.int .i64 a0, .int .i64 a1, .int .u64 a2, .int .i64 a8, .int .i64 a9, .int .i64 a3, .slice a6 a4 a5, .int .u64 0] := a7.seti 6 rfl ba
  refine ⟨a7.cani 7 rfl rfl, thenW_in fun ai be => ?_⟩
  have am := b5.x_set (q := af.heap.size) (i := 7) rfl (.inl (.inl rfl)) be
  have a7 : Blk ai af.heap.size 29 [.int .i64 a0, .int .i64 a1, .int .u64 a2, .int .i64 a8, .int .i64 a9, .int .i64 a3, .slice a6 a4 a5, .int .u64 aa] := a7.seti 7 rfl be
  refine ⟨a0, a1, a2, a8, a9, a3, a6, a4, a5, aa, ⟨a7.celli 0 rfl rfl, a7.celli 1 rfl rfl, a7.celli 2 rfl rfl, a7.celli 3 rfl rfl, a7.celli 4 rfl rfl, a7.celli 5 rfl rfl, a7.celli 6 rfl rfl, a7.celli 7 rfl rfl, trivial⟩, ?_⟩
  have h := h ai am
  exact h

theorem forkcheck_own.go (a0 : Int) (a4 : Int) (a6 : Int) (a7 : Int) (a8 : Int) (a1 : Int) (a3 : Option Addr) (a2 : Nat) (a5 : Nat) (a9 : Int) {R : Value → World → Prop} {w : World} (h : forkcheck_own.N a0 a4 a6 a7 a8 a1 a3 a2 a5 a9 R w) : Calls Try.prog 39 #[.agg #[.int .i64 a0, .int .i64 a4, .int .u64 a6, .int .i64 a7, .int .i64 a8, .int .i64 a1, .slice a3 a2 a5, .int .u64 a9]] w fun e w' => ∃ v, e = .returned v ∧ R v w' := forkcheck_own.ok a0 a4 a6 a7 a8 a1 a3 a2 a5 a9 (forkcheck_own.up a0 a4 a6 a7 a8 a1 a3 a2 a5 a9 h)
/-- forkcheck.NewAlarm -/
def forkcheck_NewAlarm.M  (R : Value → World → Prop) (w : World) : Prop :=
 thenW (w.alloc (.map #[] 0)) fun a0 =>
 thenW (a0.alloc (.cells #[.map (some w.heap.size)] 122)) fun a1 =>
 R (.pointer (some (blk a0.heap.size))) a1

theorem forkcheck_NewAlarm.eq  (R : Value → World → Prop) (w : World) : mfunc Try.prog [] 29 [] R w = forkcheck_NewAlarm.M  R w := by kernel_rfl
theorem forkcheck_NewAlarm.ok  {R : Value → World → Prop} {w : World} (h : forkcheck_NewAlarm.M  R w) : Calls Try.prog 29 #[] w fun e w' => ∃ v, e = .returned v ∧ R v w' :=
  mfunc_ok follows (H := []) (args := []) (by rw [forkcheck_NewAlarm.eq]; exact h)

def forkcheck_NewAlarm.N  (R : Value → World → Prop) (w : World) : Prop :=
 ∀ (a0 : World) (q2 : Nat), Ext no w a0 → a0.heap[q2]? = some (.map #[] 0) → w.heap.size ≤ q2 → q2 < a0.heap.size →
 ∀ (a1 : World) (q4 : Nat), Ext no a0 a1 → Blk a1 q4 122 [.map (some q2)] → a0.heap.size ≤ q4 → q4 < a1.heap.size →
 R (.pointer (some (blk q4))) a1

theorem forkcheck_NewAlarm.up  {R : Value → World → Prop} {w : World} (h : forkcheck_NewAlarm.N  R w) : forkcheck_NewAlarm.M  R w := by
  unfold forkcheck_NewAlarm.M
  unfold forkcheck_NewAlarm.N at h
  refine thenW_in fun a0 e1 => ?_
  have h := h a0 w.heap.size ((Ext.refl no w).x_alloc e1) (get_alloc e1) (Nat.le_refl _) (size_lt_alloc e1)
  refine thenW_in fun a1 e3 => ?_
  have h := h a1 a0.heap.size ((Ext.refl no a0).x_alloc e3) (Blk.of_new e3) ((Ext.refl no a0)).size (size_lt_alloc e3)
  exact h

theorem forkcheck_NewAlarm.go  {R : Value → World → Prop} {w : World} (h : forkcheck_NewAlarm.N  R w) : Calls Try.prog 29 #[] w fun e w' => ∃ v, e = .returned v ∧ R v w' := forkcheck_NewAlarm.ok  (forkcheck_NewAlarm.up  h)
/-- (*forkcheck.Alarm).Raise -/
def forkcheck_Alarm_Raise.M (a1 : Option Addr) (o2 : Option Addr) (cx : Int) (cg : Int) (cu : Int) (cy : Int) (d4 : Int) (d6 : Int) (cp : Int) (cb : Option Addr) (ca : Nat) (c9 : Nat) (d0 : Int) (bu : Int) (ce : Int) (cs : Int) (d1 : Int) (d2 : Int) (cd : Int) (ch : Option Addr) (cf : Nat) (ci : Nat) (cz : Int) (R : Value → World → Prop) (w : World) : Prop :=
 thenW (w.alloc (.cells #[.int .i64 cg, .int .i64 cu, .int .u64 cy, .int .i64 d4, .int .i64 d6, .int .i64 cp, .slice cb ca c9, .int .u64 d0, .int .i64 bu, .int .i64 ce, .int .u64 cs, .int .i64 d1, .int .i64 d2, .int .i64 cd, .slice ch cf ci, .int .u64 cz] 44)) fun d5 =>
 bif Option.isNone a1 then (
 R (.int .i64 23) d5) else (
 ∃ (ad : Int) (az : Int) (bj : Int) (c4 : Int) (c8 : Int) (ay : Int) (av : Option Addr) (ar : Nat) (aq : Nat) (c6 : Int) (a7 : Int) (au : Int) (bf : Int) (c2 : Int) (c3 : Int) (ao : Int) (b0 : Option Addr) (ap : Nat) (b1 : Nat) (bx : Int), cellsAt d5 (blk w.heap.size) [.int .i64 ad, .int .i64 az, .int .u64 bj, .int .i64 c4, .int .i64 c8, .int .i64 ay, .slice av ar aq, .int .u64 c6, .int .i64 a7, .int .i64 au, .int .u64 bf, .int .i64 c2, .int .i64 c3, .int .i64 ao, .slice b0 ap b1, .int .u64 bx] 0 ∧
 Calls Try.prog 14 #[.pointer o2, .int .u64 cx, .agg #[.int .i64 ad, .int .i64 az, .int .u64 bj, .int .i64 c4, .int .i64 c8, .int .i64 ay, .slice av ar aq, .int .u64 c6, .int .i64 a7, .int .i64 au, .int .u64 bf, .int .i64 c2, .int .i64 c3, .int .i64 ao, .slice b0 ap b1, .int .u64 bx]] d5 fun dv d7 => ∃ (b2 : Int), dv = .returned (.int .i64 b2) ∧
 bif b2 != 0 then (
 R (.int .i64 b2) d7) else (
 thenW (d7.drew) fun a0 =>
 a1.elim False fun dw =>
 ∃ (ds : Option Nat), a0.cell? (dw.add 0) = some (.map ds) ∧
 ∃ (a3 : Int), a0.cell? (((blk w.heap.size).add 0).add 0) = some (.int .i64 a3) ∧
 ∃ (a6 : Int) (ab : Int) (b5 : Int) (bv : Int) (br : Int) (am : Int) (ag : Option Addr) (a9 : Nat) (aa : Nat) (bw : Int) (a5 : Int) (a8 : Int) (b3 : Int) (bp : Int) (bo : Int) (ak : Int) (al : Option Addr) (aj : Nat) (ae : Nat) (bq : Int) (du : Bool), (Instr.lookup 120 (.map ds) (.int .i64 a3) true).run Try.prog a0 = .ok (.tuple #[.agg #[.int .i64 a6, .int .i64 ab, .int .u64 b5, .int .i64 bv, .int .i64 br, .int .i64 am, .slice ag a9 aa, .int .u64 bw, .int .i64 a5, .int .i64 a8, .int .u64 b3, .int .i64 bp, .int .i64 bo, .int .i64 ak, .slice al aj ae, .int .u64 bq], .bool du]) a0 ∧
 thenW (a0.alloc (.cells #[.int .i64 0, .int .i64 0, .int .u64 0, .int .i64 0, .int .i64 0, .int .i64 0, .slice none 0 0, .int .u64 0, .int .i64 0, .int .i64 0, .int .u64 0, .int .i64 0, .int .i64 0, .int .i64 0, .slice none 0 0, .int .u64 0] 44)) fun cc =>
 (Instr.lookup 120 (.map ds) (.int .i64 a3) true).run Try.prog cc = .ok (.tuple #[.agg #[.int .i64 a6, .int .i64 ab, .int .u64 b5, .int .i64 bv, .int .i64 br, .int .i64 am, .slice ag a9 aa, .int .u64 bw, .int .i64 a5, .int .i64 a8, .int .u64 b3, .int .i64 bp, .int .i64 bo, .int .i64 ak, .slice al aj ae, .int .u64 bq], .bool du]) cc ∧
 cc.cell? (((blk w.heap.size).add 0).add 0) = some (.int .i64 a3) ∧
 cc.cell? (dw.add 0) = some (.map ds) ∧
 canStore cc ((blk a0.heap.size).add 0) ∧
 thenW (cc.setCell ((blk a0.heap.size).add 0) (.int .i64 a6)) fun dn =>
 canStore dn ((blk a0.heap.size).add 1) ∧
 thenW (dn.setCell ((blk a0.heap.size).add 1) (.int .i64 ab)) fun dl =>
 canStore dl ((blk a0.heap.size).add 2) ∧
 thenW (dl.setCell ((blk a0.heap.size).add 2) (.int .u64 b5)) fun de =>
 canStore de ((blk a0.heap.size).add 3) ∧
 thenW (de.setCell ((blk a0.heap.size).add 3) (.int .i64 bv)) fun dp =>
 canStore dp ((blk a0.heap.size).add 4) ∧
 thenW (dp.setCell ((blk a0.heap.size).add 4) (.int .i64 br)) fun db =>
 canStore db ((blk a0.heap.size).add 5) ∧
 thenW (db.setCell ((blk a0.heap.size).add 5) (.int .i64 am)) fun da =>
 canStore da ((blk a0.heap.size).add 6) ∧
 thenW (da.setCell ((blk a0.heap.size).add 6) (.slice ag a9 aa)) fun dm =>
 canStore dm ((blk a0.heap.size).add 7) ∧
 thenW (dm.setCell ((blk a0.heap.size).add 7) (.int .u64 bw)) fun dj =>
 canStore dj ((blk a0.heap.size).add 8) ∧
 thenW (dj.setCell ((blk a0.heap.size).add 8) (.int .i64 a5)) fun dq =>
 canStore dq ((blk a0.heap.size).add 9) ∧
 thenW (dq.setCell ((blk a0.heap.size).add 9) (.int .i64 a8)) fun df =>
 canStore df ((blk a0.heap.size).add 10) ∧
 thenW (df.setCell ((blk a0.heap.size).add 10) (.int .u64 b3)) fun d8 =>
 canStore d8 ((blk a0.heap.size).add 11) ∧
 thenW (d8.setCell ((blk a0.heap.size).add 11) (.int .i64 bp)) fun dh =>
 canStore dh ((blk a0.heap.size).add 12) ∧
 thenW (dh.setCell ((blk a0.heap.size).add 12) (.int .i64 bo)) fun dg =>
 canStore dg ((blk a0.heap.size).add 13) ∧
 thenW (dg.setCell ((blk a0.heap.size).add 13) (.int .i64 ak)) fun di =>
 canStore di ((blk a0.heap.size).add 14) ∧
 thenW (di.setCell ((blk a0.heap.size).add 14) (.slice al aj ae)) fun dc =>
 canStore dc ((blk a0.heap.size).add 15) ∧
 thenW (dc.setCell ((blk a0.heap.size).add 15) (.int .u64 bq)) fun d9 =>
 bif !du then (
 thenW (d9.drew) fun co =>
 a1.elim False fun dt =>
 ∃ (dr : Option Nat), co.cell? (dt.add 0) = some (.map dr) ∧
 ∃ (a2 : Int), co.cell? (((blk w.heap.size).add 0).add 0) = some (.int .i64 a2) ∧
 ∃ (ax : Int) (bm : Int) (c5 : Int) (cr : Int) (cw : Int) (be : Int) (bk : Option Addr) (b9 : Nat) (bc : Nat) (cj : Int), cellsAt co ((blk w.heap.size).add 0) [.int .i64 ax, .int .i64 bm, .int .u64 c5, .int .i64 cr, .int .i64 cw, .int .i64 be, .slice bk b9 bc, .int .u64 cj] 0 ∧
 ∃ (a4 : Int) (ac : Int) (b4 : Int) (bn : Int) (bs : Int) (an : Int) (af : Option Addr) (ai : Nat) (ah : Nat) (bt : Int), cellsAt co ((blk w.heap.size).add 8) [.int .i64 a4, .int .i64 ac, .int .u64 b4, .int .i64 bn, .int .i64 bs, .int .i64 an, .slice af ai ah, .int .u64 bt] 0 ∧
 Calls Try.prog 39 #[.agg #[.int .i64 ax, .int .i64 bm, .int .u64 c5, .int .i64 cr, .int .i64 cw, .int .i64 be, .slice bk b9 bc, .int .u64 cj]] co fun dd c0 => ∃ (bl : Int) (c7 : Int) (bz : Int) (cl : Int) (ck : Int) (b7 : Int) (ba : Option Addr) (bh : Nat) (bi : Nat) (cm : Int), dd = .returned (.agg #[.int .i64 bl, .int .i64 c7, .int .u64 bz, .int .i64 cl, .int .i64 ck, .int .i64 b7, .slice ba bh bi, .int .u64 cm]) ∧
 cellsAt c0 ((blk w.heap.size).add 8) [.int .i64 a4, .int .i64 ac, .int .u64 b4, .int .i64 bn, .int .i64 bs, .int .i64 an, .slice af ai ah, .int .u64 bt] 0 ∧
 c0.cell? (((blk w.heap.size).add 0).add 0) = some (.int .i64 a2) ∧
 c0.cell? (dt.add 0) = some (.map dr) ∧
 Calls Try.prog 39 #[.agg #[.int .i64 a4, .int .i64 ac, .int .u64 b4, .int .i64 bn, .int .i64 bs, .int .i64 an, .slice af ai ah, .int .u64 bt]] c0 fun dk cn => ∃ (aw : Int) (bd : Int) (c1 : Int) (ct : Int) (cv : Int) (bg : Int) (b8 : Option Addr) (b6 : Nat) (bb : Nat) (cq : Int), dk = .returned (.agg #[.int .i64 aw, .int .i64 bd, .int .u64 c1, .int .i64 ct, .int .i64 cv, .int .i64 bg, .slice b8 b6 bb, .int .u64 cq]) ∧
 cn.cell? (((blk w.heap.size).add 0).add 0) = some (.int .i64 a2) ∧
 cn.cell? (dt.add 0) = some (.map dr) ∧
 ∃ d3 : World, (Instr.mapUpdate 120 (.map dr) (.int .i64 a2) (.agg #[.int .i64 bl, .int .i64 c7, .int .u64 bz, .int .i64 cl, .int .i64 ck, .int .i64 b7, .slice ba bh bi, .int .u64 cm, .int .i64 aw, .int .i64 bd, .int .u64 c1, .int .i64 ct, .int .i64 cv, .int .i64 bg, .slice b8 b6 bb, .int .u64 cq])).run Try.prog cn = .ok () d3 ∧
 R (.int .i64 0) d3) else (
 R (.int .i64 0) d9)))

theorem forkcheck_Alarm_Raise.eq (a1 : Option Addr) (o2 : Option Addr) (publicv3 : Int) (pAWriter4 : Int) (pAIndex5 : Int) (pAPrev6 : Int) (pAAtT7 : Int) (pAAtW8 : Int) (pAEpoch9 : Int) (pABody10a : Option Addr) (pABody10n : Nat) (pABody10c : Nat) (pASig11 : Int) (pBWriter12 : Int) (pBIndex13 : Int) (pBPrev14 : Int) (pBAtT15 : Int) (pBAtW16 : Int) (pBEpoch17 : Int) (pBBody18a : Option Addr) (pBBody18n : Nat) (pBBody18c : Nat) (pBSig19 : Int) (R : Value → World → Prop) (w : World) : mfunc Try.prog [] 30 [.pointer a1, .pointer o2, .int .u64 publicv3, .agg #[.int .i64 pAWriter4, .int .i64 pAIndex5, .int .u64 pAPrev6, .int .i64 pAAtT7, .int .i64 pAAtW8, .int .i64 pAEpoch9, .slice pABody10a pABody10n pABody10c, .int .u64 pASig11, .int .i64 pBWriter12, .int .i64 pBIndex13, .int .u64 pBPrev14, .int .i64 pBAtT15, .int .i64 pBAtW16, .int .i64 pBEpoch17, .slice pBBody18a pBBody18n pBBody18c, .int .u64 pBSig19]] R w = forkcheck_Alarm_Raise.M a1 o2 publicv3 pAWriter4 pAIndex5 pAPrev6 pAAtT7 pAAtW8 pAEpoch9 pABody10a pABody10n pABody10c pASig11 pBWriter12 pBIndex13 pBPrev14 pBAtT15 pBAtW16 pBEpoch17 pBBody18a pBBody18n pBBody18c pBSig19 R w := by kernel_rfl
theorem forkcheck_Alarm_Raise.ok (a1 : Option Addr) (o2 : Option Addr) (ae : Int) (a8 : Int) (ad : Int) (af : Int) (al : Int) (ak : Int) (ab : Int) (a7 : Option Addr) (a4 : Nat) (a2 : Nat) (ag : Int) (a0 : Int) (a3 : Int) (ac : Int) (ah : Int) (ai : Int) (a9 : Int) (a6 : Option Addr) (a5 : Nat) (aa : Nat) (aj : Int) {R : Value → World → Prop} {w : World} (h : forkcheck_Alarm_Raise.M a1 o2 ae a8 ad af al ak ab a7 a4 a2 ag a0 a3 ac ah ai a9 a6 a5 aa aj R w) : Calls Try.prog 30 #[.pointer a1, .pointer o2, .int .u64 ae, .agg #[.int .i64 a8, .int .i64 ad, .int .u64 af, .int .i64 al, .int .i64 ak, .int .i64 ab, .slice a7 a4 a2, .int .u64 ag, .int .i64 a0, .int .i64 a3, .int .u64 ac, .int .i64 ah, .int .i64 ai, .int .i64 a9, .slice a6 a5 aa, .int .u64 aj]] w fun e w' => ∃ v, e = .returned v ∧ R v w' :=
  mfunc_ok follows (H := []) (args := [.pointer a1, .pointer o2, .int .u64 ae, .agg #[.int .i64 a8, .int .i64 ad, .int .u64 af, .int .i64 al, .int .i64 ak, .int .i64 ab, .slice a7 a4 a2, .int .u64 ag, .int .i64 a0, .int .i64 a3, .int .u64 ac, .int .i64 ah, .int .i64 ai, .int .i64 a9, .slice a6 a5 aa, .int .u64 aj]]) (by rw [forkcheck_Alarm_Raise.eq]; exact h)

def forkcheck_Alarm_Raise.N (a1 : Option Addr) (o2 : Option Addr) (bp : Int) (a0 : Int) (an : Int) (ax : Int) (bg : Int) (bk : Int) (ai : Int) (a6 : Option Addr) (a5 : Nat) (a4 : Nat) (b8 : Int) (a3 : Int) (a9 : Int) (ak : Int) (b9 : Int) (ba : Int) (a8 : Int) (ac : Option Addr) (aa : Nat) (ad : Nat) (az : Int) (R : Value → World → Prop) (w : World) : Prop :=
 (a1 = none →
 ∀ (av : World), Ext no w av →
 R (.int .i64 23) av) ∧
 (a1 ≠ none →
 ∀ (av : World) (c7 : Nat), Ext no w av → Priv w av [c7] →
 Calls Try.prog 14 #[.pointer o2, .int .u64 bp, .agg #[.int .i64 a0, .int .i64 an, .int .u64 ax, .int .i64 bg, .int .i64 bk, .int .i64 ai, .slice a6 a5 a4, .int .u64 b8, .int .i64 a3, .int .i64 a9, .int .u64 ak, .int .i64 b9, .int .i64 ba, .int .i64 a8, .slice ac aa ad, .int .u64 az]] av fun ca bq => ∃ (a2 : Int), ca = .returned (.int .i64 a2) ∧
 Keep [c7] av bq ∧
 (a2 ≠ 0 →
 R (.int .i64 a2) bq) ∧
 (a2 = 0 →
 ∃ c1 : Addr, a1 = some c1 ∧
 ∃ (c4 : Option Nat), bq.cell? (c1.add 0) = some (.map c4) ∧
 ∀ (bf : World), Ext no bq bf →
 ∃ (a7 : Int) (al : Int) (b4 : Int) (bl : Int) (bh : Int) (ao : Int) (ar : Option Addr) (ae : Nat) (aq : Nat) (bi : Int) (ab : Int) (ag : Int) (ay : Int) (bn : Int) (bj : Int) (aj : Int) (am : Option Addr) (ah : Nat) (ap : Nat) (be : Int) (c6 : Bool), (Instr.lookup 120 (.map c4) (.int .i64 a0) true).run Try.prog bf = .ok (.tuple #[.agg #[.int .i64 a7, .int .i64 al, .int .u64 b4, .int .i64 bl, .int .i64 bh, .int .i64 ao, .slice ar ae aq, .int .u64 bi, .int .i64 ab, .int .i64 ag, .int .u64 ay, .int .i64 bn, .int .i64 bj, .int .i64 aj, .slice am ah ap, .int .u64 be], .bool c6]) bf ∧
 ∀ (aw : World) (cb : Nat), Ext no bf aw → Priv bf aw [cb] →
 (Instr.lookup 120 (.map c4) (.int .i64 a0) true).run Try.prog aw = .ok (.tuple #[.agg #[.int .i64 a7, .int .i64 al, .int .u64 b4, .int .i64 bl, .int .i64 bh, .int .i64 ao, .slice ar ae aq, .int .u64 bi, .int .i64 ab, .int .i64 ag, .int .u64 ay, .int .i64 bn, .int .i64 bj, .int .i64 aj, .slice am ah ap, .int .u64 be], .bool c6]) aw ∧
 aw.cell? (c1.add 0) = some (.map c4) ∧
 (c6 = false →
 ∀ (br : World), Ext (fun b => b = cb) aw br →
 ∃ (c5 : Option Nat), br.cell? (c1.add 0) = some (.map c5) ∧
 Calls Try.prog 39 #[.agg #[.int .i64 a0, .int .i64 an, .int .u64 ax, .int .i64 bg, .int .i64 bk, .int .i64 ai, .slice a6 a5 a4, .int .u64 b8]] br fun c8 bs => ∃ (af : Int) (bd : Int) (bo : Int) (bv : Int) (bw : Int) (b5 : Int) (bb : Option Addr) (b0 : Nat) (bc : Nat) (bz : Int), c8 = .returned (.agg #[.int .i64 af, .int .i64 bd, .int .u64 bo, .int .i64 bv, .int .i64 bw, .int .i64 b5, .slice bb b0 bc, .int .u64 bz]) ∧
 Keep [c7] br bs ∧
 bs.cell? (c1.add 0) = some (.map c5) ∧
 Calls Try.prog 39 #[.agg #[.int .i64 a3, .int .i64 a9, .int .u64 ak, .int .i64 b9, .int .i64 ba, .int .i64 a8, .slice ac aa ad, .int .u64 az]] bs fun c9 c0 => ∃ (au : Int) (b6 : Int) (bm : Int) (bu : Int) (bx : Int) (b1 : Int) (b3 : Option Addr) (b2 : Nat) (b7 : Nat) (bt : Int), c9 = .returned (.agg #[.int .i64 au, .int .i64 b6, .int .u64 bm, .int .i64 bu, .int .i64 bx, .int .i64 b1, .slice b3 b2 b7, .int .u64 bt]) ∧
 Keep [c7] bs c0 ∧
 c0.cell? (c1.add 0) = some (.map c5) ∧
 ∃ (c3 : World), (Instr.mapUpdate 120 (.map c5) (.int .i64 a0) (.agg #[.int .i64 af, .int .i64 bd, .int .u64 bo, .int .i64 bv, .int .i64 bw, .int .i64 b5, .slice bb b0 bc, .int .u64 bz, .int .i64 au, .int .i64 b6, .int .u64 bm, .int .i64 bu, .int .i64 bx, .int .i64 b1, .slice b3 b2 b7, .int .u64 bt])).run Try.prog c0 = .ok () c3 ∧
 R (.int .i64 0) c3) ∧
 (c6 = true →
 ∀ (c2 : World), Ext (fun b => b = cb) aw c2 →
 R (.int .i64 0) c2)))

theorem forkcheck_Alarm_Raise.up (a1 : Option Addr) (o2 : Option Addr) (ba : Int) (ag : Int) (ax : Int) (az : Int) (b8 : Int) (b9 : Int) (au : Int) (am : Option Addr) (al : Nat) (ak : Nat) (b1 : Int) (aj : Int) (ao : Int) (aw : Int) (b2 : Int) (b3 : Int) (an : Int) (aq : Option Addr) (ap : Nat) (ar : Nat) (b0 : Int) {R : Value → World → Prop} {w : World} (h : forkcheck_Alarm_Raise.N a1 o2 ba ag ax az b8 b9 au am al ak b1 aj ao aw b2 b3 an aq ap ar b0 R w) : forkcheck_Alarm_Raise.M a1 o2 ba ag ax az b8 b9 au am al ak b1 aj ao aw b2 b3 an aq ap ar b0 R w := by
  unfold forkcheck_Alarm_Raise.M
  unfold forkcheck_Alarm_Raise.N at h
  refine thenW_in fun bt dy => ?_
  have a4 := Blk.of_new dy
  have e8 := ((Ext.refl no w)).size
  have bv := (Ext.refl no w).x_alloc dy
  refine bif_of (fun d6 => ?_) (fun d6 => ?_)
  · have h := h.1 (isNone_t d6)
    have h := h bt bv
    exact h
  · have h := h.2 (isNone_f d6)
    refine ⟨ag, ax, az, b8, b9, au, am, al, ak, b1, aj, ao, aw, b2, b3, an, aq, ap, ar, b0, ⟨a4.celli 0 rfl rfl, a4.celli 1 rfl rfl, a4.celli 2 rfl rfl, a4.celli 3 rfl rfl, a4.celli 4 rfl rfl, a4.celli 5 rfl rfl, a4.celli 6 rfl rfl, a4.celli 7 rfl rfl, a4.celli 8 rfl rfl, a4.celli 9 rfl rfl, a4.celli 10 rfl rfl, a4.celli 11 rfl rfl, a4.celli 12 rfl rfl, a4.celli 13 rfl rfl, a4.celli 14 rfl rfl, a4.celli 15 rfl rfl, trivial⟩, ?_⟩
    have h := h bt (w.heap.size) bv (Priv.cons e8 a4.lt Priv.nil)
    refine h.mono fun e2 cj h => ?_
    obtain ⟨bp, he, hk, h⟩ := h
    refine ⟨bp, he, ?_⟩
    have a4 := hk.blk a4 (by simp)
    refine bif_of (fun d8 => ?_) (fun d8 => ?_)
    · have h := h.1 (bne_t d8)
      exact h
    · have h := h.2 (bne_f d8)
      refine thenW_in fun a2 dx => ?_
      have c2 := (Ext.refl no cj).x_drew dx
      have a4 := a4.x_drew dx
      obtain ⟨ea, bz, h⟩ := h
      refine elim_some bz ?_
      obtain ⟨e3, cu, h⟩ := h
      refine ⟨e3, (c2).cell cu id, ?_⟩
      refine ⟨ag, a4.celli 0 rfl rfl, ?_⟩
      have h := h a2 c2
      obtain ⟨a0, a3, a5, ab, ac, a6, a9, a7, a8, ah, aa, ad, ai, ay, b4, av, b6, b5, b7, bb, e9, d4, h⟩ := h
      refine ⟨a0, a3, a5, ab, ac, a6, a9, a7, a8, ah, aa, ad, ai, ay, b4, av, b6, b5, b7, bb, e9, d4, ?_⟩
      refine thenW_in fun be cz => ?_
      have af := Blk.of_new cz
      have e4 := ((Ext.refl no a2)).size
      have ae := Nat.ne_of_lt a4.lt
      have a4 := a4.x_alloc cz
      have dd := (Ext.refl no a2).x_alloc cz
      have h := h be (a2.heap.size) dd (Priv.cons e4 af.lt Priv.nil)
      obtain ⟨d2, d7, h⟩ := h
      refine ⟨d2, a4.celli 0 rfl rfl, d7, ?_⟩
      have dp : Ext (fun b => b = a2.heap.size) be be := ((Ext.refl no be)).none
      refine ⟨af.cani 0 rfl rfl, thenW_in fun ce d9 => ?_⟩
      have c8 := dp.x_set (q := a2.heap.size) (i := 0) rfl (.inl rfl) d9
      have a4 := a4.oth (q := a2.heap.size) (i := 0) rfl ae d9
      have af : Blk ce a2.heap.size 44 [.int .i64 a0, .int .i64 0, .int .u64 0, .int .i64 0, .int .i64 0, .int .i64 0, .slice none 0 0, .int .u64 0, .int .i64 0, .int .i64 0, .int .u64 0, .int .i64 0, .int .i64 0, .int .i64 0, .slice none 0 0, .int .u64 0] := af.seti 0 rfl d9
      refine ⟨af.cani 1 rfl rfl, thenW_in fun dc dw => ?_⟩
      have cd := c8.x_set (q := a2.heap.size) (i := 1) rfl (.inl rfl) dw
      have a4 := a4.oth (q := a2.heap.size) (i := 1) rfl ae dw
      have af : Blk dc a2.heap.size 44 [.int .i64 a0, .int .i64 a3, .int .u64 0, .int .i64 0, .int .i64 0, .int .i64 0, .slice none 0 0, .int .u64 0, .int .i64 0, .int .i64 0, .int .u64 0, .int .i64 0, .int .i64 0, .int .i64 0, .slice none 0 0, .int .u64 0] := af.seti 1 rfl dw
      refine ⟨af.cani 2 rfl rfl, thenW_in fun cc c5 => ?_⟩
      have cb := cd.x_set (q := a2.heap.size) (i := 2) rfl (.inl rfl) c5
      have a4 := a4.oth (q := a2.heap.size) (i := 2) rfl ae c5
      have af : Blk cc a2.heap.size 44 [.int .i64 a0, .int .i64 a3, .int .u64 a5, .int .i64 0, .int .i64 0, .int .i64 0, .slice none 0 0, .int .u64 0, .int .i64 0, .int .i64 0, .int .u64 0, .int .i64 0, .int .i64 0, .int .i64 0, .slice none 0 0, .int .u64 0] := af.seti 2 rfl c5
      refine ⟨af.cani 3 rfl rfl, thenW_in fun dv cx => ?_⟩
      have c6 := cb.x_set (q := a2.heap.size) (i := 3) rfl (.inl rfl) cx
      have a4 := a4.oth (q := a2.heap.size) (i := 3) rfl ae cx
      have af : Blk dv a2.heap.size 44 [.int .i64 a0, .int .i64 a3, .int .u64 a5, .int .i64 ab, .int .i64 0, .int .i64 0, .slice none 0 0, .int .u64 0, .int .i64 0, .int .i64 0, .int .u64 0, .int .i64 0, .int .i64 0, .int .i64 0, .slice none 0 0, .int .u64 0] := af.seti 3 rfl cx
      refine ⟨af.cani 4 rfl rfl, thenW_in fun cn du => ?_⟩
      have dm := c6.x_set (q := a2.heap.size) (i := 4) rfl (.inl rfl) du
      have a4 := a4.oth (q := a2.heap.size) (i := 4) rfl ae du
      have af : Blk cn a2.heap.size 44 [.int .i64 a0, .int .i64 a3, .int .u64 a5, .int .i64 ab, .int .i64 ac, .int .i64 0, .slice none 0 0, .int .u64 0, .int .i64 0, .int .i64 0, .int .u64 0, .int .i64 0, .int .i64 0, .int .i64 0, .slice none 0 0, .int .u64 0] := af.seti 4 rfl du
      refine ⟨af.cani 5 rfl rfl, thenW_in fun cv dj => ?_⟩
      have c7 := dm.x_set (q := a2.heap.size) (i := 5) rfl (.inl rfl) dj
      have a4 := a4.oth (q := a2.heap.size) (i := 5) rfl ae dj
      have af : Blk cv a2.heap.size 44 [.int .i64 a0, .int .i64 a3, .int .u64 a5, .int .i64 ab, .int .i64 ac, .int .i64 a6, .slice none 0 0, .int .u64 0, .int .i64 0, .int .i64 0, .int .u64 0, .int .i64 0, .int .i64 0, .int .i64 0, .slice none 0 0, .int .u64 0] := af.seti 5 rfl dj
      refine ⟨af.cani 6 rfl rfl, thenW_in fun d1 co => ?_⟩
      have ca := c7.x_set (q := a2.heap.size) (i := 6) rfl (.inl rfl) co
      have a4 := a4.oth (q := a2.heap.size) (i := 6) rfl ae co
      have af : Blk d1 a2.heap.size 44 [.int .i64 a0, .int .i64 a3, .int .u64 a5, .int .i64 ab, .int .i64 ac, .int .i64 a6, .slice a9 a7 a8, .int .u64 0, .int .i64 0, .int .i64 0, .int .u64 0, .int .i64 0, .int .i64 0, .int .i64 0, .slice none 0 0, .int .u64 0] := af.seti 6 rfl co
      refine ⟨af.cani 7 rfl rfl, thenW_in fun cg ck => ?_⟩
      have ct := ca.x_set (q := a2.heap.size) (i := 7) rfl (.inl rfl) ck
      have a4 := a4.oth (q := a2.heap.size) (i := 7) rfl ae ck
      have af : Blk cg a2.heap.size 44 [.int .i64 a0, .int .i64 a3, .int .u64 a5, .int .i64 ab, .int .i64 ac, .int .i64 a6, .slice a9 a7 a8, .int .u64 ah, .int .i64 0, .int .i64 0, .int .u64 0, .int .i64 0, .int .i64 0, .int .i64 0, .slice none 0 0, .int .u64 0] := af.seti 7 rfl ck
      refine ⟨af.cani 8 rfl rfl, thenW_in fun da dg => ?_⟩
      have cy := ct.x_set (q := a2.heap.size) (i := 8) rfl (.inl rfl) dg
      have a4 := a4.oth (q := a2.heap.size) (i := 8) rfl ae dg
      have af : Blk da a2.heap.size 44 [.int .i64 a0, .int .i64 a3, .int .u64 a5, .int .i64 ab, .int .i64 ac, .int .i64 a6, .slice a9 a7 a8, .int .u64 ah, .int .i64 aa, .int .i64 0, .int .u64 0, .int .i64 0, .int .i64 0, .int .i64 0, .slice none 0 0, .int .u64 0] := af.seti 8 rfl dg
      refine ⟨af.cani 9 rfl rfl, thenW_in fun d0 de => ?_⟩
      have dl := cy.x_set (q := a2.heap.size) (i := 9) rfl (.inl rfl) de
      have a4 := a4.oth (q := a2.heap.size) (i := 9) rfl ae de
      have af : Blk d0 a2.heap.size 44 [.int .i64 a0, .int .i64 a3, .int .u64 a5, .int .i64 ab, .int .i64 ac, .int .i64 a6, .slice a9 a7 a8, .int .u64 ah, .int .i64 aa, .int .i64 ad, .int .u64 0, .int .i64 0, .int .i64 0, .int .i64 0, .slice none 0 0, .int .u64 0] := af.seti 9 rfl de
      refine ⟨af.cani 10 rfl rfl, thenW_in fun cp df => ?_⟩
      have d5 := dl.x_set (q := a2.heap.size) (i := 10) rfl (.inl rfl) df
      have a4 := a4.oth (q := a2.heap.size) (i := 10) rfl ae df
      have af : Blk cp a2.heap.size 44 [.int .i64 a0, .int .i64 a3, .int .u64 a5, .int .i64 ab, .int .i64 ac, .int .i64 a6, .slice a9 a7 a8, .int .u64 ah, .int .i64 aa, .int .i64 ad, .int .u64 ai, .int .i64 0, .int .i64 0, .int .i64 0, .slice none 0 0, .int .u64 0] := af.seti 10 rfl df
      refine ⟨af.cani 11 rfl rfl, thenW_in fun dk dr => ?_⟩
      have ds := d5.x_set (q := a2.heap.size) (i := 11) rfl (.inl rfl) dr
      have a4 := a4.oth (q := a2.heap.size) (i := 11) rfl ae dr
      have af : Blk dk a2.heap.size 44 [.int .i64 a0, .int .i64 a3, .int .u64 a5, .int .i64 ab, .int .i64 ac, .int .i64 a6, .slice a9 a7 a8, .int .u64 ah, .int .i64 aa, .int .i64 ad, .int .u64 ai, .int .i64 ay, .int .i64 0, .int .i64 0, .slice none 0 0, .int .u64 0] := af.seti 11 rfl dr
      refine ⟨af.cani 12 rfl rfl, thenW_in fun cl dq => ?_⟩
      have cf := ds.x_set (q := a2.heap.size) (i := 12) rfl (.inl rfl) dq
      have a4 := a4.oth (q := a2.heap.size) (i := 12) rfl ae dq
      have af : Blk cl a2.heap.size 44 [.int .i64 a0, .int .i64 a3, .int .u64 a5, .int .i64 ab, .int .i64 ac, .int .i64 a6, .slice a9 a7 a8, .int .u64 ah, .int .i64 aa, .int .i64 ad, .int .u64 ai, .int .i64 ay, .int .i64 b4, .int .i64 0, .slice none 0 0, .int .u64 0] := af.seti 12 rfl dq
      refine ⟨af.cani 13 rfl rfl, thenW_in fun ch cs => ?_⟩
      have c9 := cf.x_set (q := a2.heap.size) (i := 13) rfl (.inl rfl) cs
      have a4 := a4.oth (q := a2.heap.size) (i := 13) rfl ae cs
      have af : Blk ch a2.heap.size 44 [.int .i64 a0, .int .i64 a3, .int .u64 a5, .int .i64 ab, .int .i64 ac, .int .i64 a6, .slice a9 a7 a8, .int .u64 ah, .int .i64 aa, .int .i64 ad, .int .u64 ai, .int .i64 ay, .int .i64 b4, .int .i64 av, .slice none 0 0, .int .u64 0] := af.seti 13 rfl cs
      refine ⟨af.cani 14 rfl rfl, thenW_in fun d3 di => ?_⟩
      have cm := c9.x_set (q := a2.heap.size) (i := 14) rfl (.inl rfl) di
      have a4 := a4.oth (q := a2.heap.size) (i := 14) rfl ae di
      have af : Blk d3 a2.heap.size 44 [.int .i64 a0, .int .i64 a3, .int .u64 a5, .int .i64 ab, .int .i64 ac, .int .i64 a6, .slice a9 a7 a8, .int .u64 ah, .int .i64 aa, .int .i64 ad, .int .u64 ai, .int .i64 ay, .int .i64 b4, .int .i64 av, .slice b6 b5 b7, .int .u64 0] := af.seti 14 rfl di
      refine ⟨af.cani 15 rfl rfl, thenW_in fun bw dh => ?_⟩
      have c4 := cm.x_set (q := a2.heap.size) (i := 15) rfl (.inl rfl) dh
      have a4 := a4.oth (q := a2.heap.size) (i := 15) rfl ae dh
      have af : Blk bw a2.heap.size 44 [.int .i64 a0, .int .i64 a3, .int .u64 a5, .int .i64 ab, .int .i64 ac, .int .i64 a6, .slice a9 a7 a8, .int .u64 ah, .int .i64 aa, .int .i64 ad, .int .u64 ai, .int .i64 ay, .int .i64 b4, .int .i64 av, .slice b6 b5 b7, .int .u64 bb] := af.seti 15 rfl dh
      refine bif_of (fun cw => ?_) (fun cw => ?_)
      · have h := h.1 (not_t cw)
        refine thenW_in fun cq dz => ?_
        have cr := c4.x_drew dz
        have a4 := a4.x_drew dz
        refine elim_some bz ?_
        have h := h cq cr
        obtain ⟨e5, dt, h⟩ := h
        refine ⟨e5, dt, ?_⟩
        refine ⟨ag, a4.celli 0 rfl rfl, ?_⟩
        refine ⟨ag, ax, az, b8, b9, au, am, al, ak, b1, ⟨a4.celli 0 rfl rfl, a4.celli 1 rfl rfl, a4.celli 2 rfl rfl, a4.celli 3 rfl rfl, a4.celli 4 rfl rfl, a4.celli 5 rfl rfl, a4.celli 6 rfl rfl, a4.celli 7 rfl rfl, trivial⟩, ?_⟩
        refine ⟨aj, ao, aw, b2, b3, an, aq, ap, ar, b0, ⟨a4.celli 8 rfl rfl, a4.celli 9 rfl rfl, a4.celli 10 rfl rfl, a4.celli 11 rfl rfl, a4.celli 12 rfl rfl, a4.celli 13 rfl rfl, a4.celli 14 rfl rfl, a4.celli 15 rfl rfl, trivial⟩, ?_⟩
        refine h.mono fun e0 e7 h => ?_
        obtain ⟨bc, bo, br, bx, c0, bj, bm, bf, bn, c3, he, hk, h⟩ := h
        refine ⟨bc, bo, br, bx, c0, bj, bm, bf, bn, c3, he, ?_⟩
        have a4 := hk.blk a4 (by simp)
        obtain ⟨ci, h⟩ := h
        refine ⟨⟨a4.celli 8 rfl rfl, a4.celli 9 rfl rfl, a4.celli 10 rfl rfl, a4.celli 11 rfl rfl, a4.celli 12 rfl rfl, a4.celli 13 rfl rfl, a4.celli 14 rfl rfl, a4.celli 15 rfl rfl, trivial⟩, a4.celli 0 rfl rfl, ci, ?_⟩
        refine h.mono fun e1 e6 h => ?_
        obtain ⟨bd, bk, bq, bu, c1, bg, bi, bh, bl, bs, he, hk, h⟩ := h
        refine ⟨bd, bk, bq, bu, c1, bg, bi, bh, bl, bs, he, ?_⟩
        have a4 := hk.blk a4 (by simp)
        obtain ⟨db, h⟩ := h
        refine ⟨a4.celli 0 rfl rfl, db, ?_⟩
        obtain ⟨dn, hr, h⟩ := h
        refine ⟨dn, hr, ?_⟩
        exact h
      · have h := h.2 (not_f cw)
        have h := h bw c4
        exact h

theorem forkcheck_Alarm_Raise.go (a1 : Option Addr) (o2 : Option Addr) (ae : Int) (a8 : Int) (ad : Int) (af : Int) (al : Int) (ak : Int) (ab : Int) (a7 : Option Addr) (a4 : Nat) (a2 : Nat) (ag : Int) (a0 : Int) (a3 : Int) (ac : Int) (ah : Int) (ai : Int) (a9 : Int) (a6 : Option Addr) (a5 : Nat) (aa : Nat) (aj : Int) {R : Value → World → Prop} {w : World} (h : forkcheck_Alarm_Raise.N a1 o2 ae a8 ad af al ak ab a7 a4 a2 ag a0 a3 ac ah ai a9 a6 a5 aa aj R w) : Calls Try.prog 30 #[.pointer a1, .pointer o2, .int .u64 ae, .agg #[.int .i64 a8, .int .i64 ad, .int .u64 af, .int .i64 al, .int .i64 ak, .int .i64 ab, .slice a7 a4 a2, .int .u64 ag, .int .i64 a0, .int .i64 a3, .int .u64 ac, .int .i64 ah, .int .i64 ai, .int .i64 a9, .slice a6 a5 aa, .int .u64 aj]] w fun e w' => ∃ v, e = .returned v ∧ R v w' := forkcheck_Alarm_Raise.ok a1 o2 ae a8 ad af al ak ab a7 a4 a2 ag a0 a3 ac ah ai a9 a6 a5 aa aj (forkcheck_Alarm_Raise.up a1 o2 ae a8 ad af al ak ab a7 a4 a2 ag a0 a3 ac ah ai a9 a6 a5 aa aj h)
/-- (*forkcheck.Alarm).On -/
def forkcheck_Alarm_On.M (a1 : Option Addr) (R : Value → World → Prop) (w : World) : Prop :=
 bif !(Option.isNone a1) then (
 a1.elim False fun a2 =>
 ∃ (m3 : Option Nat), w.cell? (a2.add 0) = some (.map m3) ∧
 ∃ (n4 : Int), (Builtin.len_ #[120] 3 #[.map m3]).run Try.prog w = .ok (.int .i64 n4) w ∧
 R (.bool (decide (n4 > 0))) w) else (
 R (.bool false) w)

theorem forkcheck_Alarm_On.eq (a1 : Option Addr) (R : Value → World → Prop) (w : World) : mfunc Try.prog [] 31 [.pointer a1] R w = forkcheck_Alarm_On.M a1 R w := by kernel_rfl
theorem forkcheck_Alarm_On.ok (a1 : Option Addr) {R : Value → World → Prop} {w : World} (h : forkcheck_Alarm_On.M a1 R w) : Calls Try.prog 31 #[.pointer a1] w fun e w' => ∃ v, e = .returned v ∧ R v w' :=
  mfunc_ok follows (H := []) (args := [.pointer a1]) (by rw [forkcheck_Alarm_On.eq]; exact h)

def forkcheck_Alarm_On.N (a1 : Option Addr) (R : Value → World → Prop) (w : World) : Prop :=
 (a1 ≠ none →
 ∃ a3 : Addr, a1 = some a3 ∧
 ∃ (m5 : Option Nat), w.cell? (a3.add 0) = some (.map m5) ∧
 ∃ (n6 : Int), (Builtin.len_ #[120] 3 #[.map m5]).run Try.prog w = .ok (.int .i64 n6) w ∧
 R (.bool (decide (n6 > 0))) w) ∧
 (a1 = none →
 R (.bool false) w)

theorem forkcheck_Alarm_On.up (a1 : Option Addr) {R : Value → World → Prop} {w : World} (h : forkcheck_Alarm_On.N a1 R w) : forkcheck_Alarm_On.M a1 R w := by
  unfold forkcheck_Alarm_On.M
  unfold forkcheck_Alarm_On.N at h
  refine bif_of (fun c2 => ?_) (fun c2 => ?_)
  · have h := h.1 (isNone_f (not_t c2))
    obtain ⟨a3, a4, h⟩ := h
    refine elim_some a4 ?_
    obtain ⟨m5, a2, h⟩ := h
    refine ⟨m5, a2, ?_⟩
    obtain ⟨n6, a0, h⟩ := h
    refine ⟨n6, a0, ?_⟩
    exact h
  · have h := h.2 (isNone_t (not_f c2))
    exact h

theorem forkcheck_Alarm_On.go (a1 : Option Addr) {R : Value → World → Prop} {w : World} (h : forkcheck_Alarm_On.N a1 R w) : Calls Try.prog 31 #[.pointer a1] w fun e w' => ∃ v, e = .returned v ∧ R v w' := forkcheck_Alarm_On.ok a1 (forkcheck_Alarm_On.up a1 h)
theorem forkcheck_Alarm_On.run (a1 : Option Addr) {V : Value} {Q : World → Prop} {w : World} (h : forkcheck_Alarm_On.N a1 (fun v w' => v = V ∧ Q w') w) : Calls Try.prog 31 #[.pointer a1] w (Ret V Q) := (forkcheck_Alarm_On.go a1 h).mono fun e w' ⟨v, he, hv, hq⟩ => ⟨by rw [he, hv], hq⟩

/-- cachettelaw23.alive -/
def cachettelaw23_alive.M  (R : Value → World → Prop) (w : World) : Prop :=
 Calls Try.prog 6 #[.slice none 0 0] w fun d6 d4 => ∃ (bb : Option Addr), d6 = .returned (.pointer bb) ∧
 Calls Try.prog 7 #[.pointer bb] d4 fun d5 d1 => ∃ (bc : Int) (br : Int), d5 = .returned (.tuple #[.int .u64 bc, .int .u64 br]) ∧
 thenW (d1.alloc (.cells #[.int .u8 120] 5)) fun d7 =>
 ∃ (d3 : Option Addr) (d2 : Nat) (d0 : Nat) (c6 : World), (convert 23 23 (.slice (some (blk d1.heap.size)) 1 1)).run Try.prog d7 = .ok (.slice d3 d2 d0) c6 ∧
 Calls Try.prog 28 #[.pointer bb, .int .u64 bc, .agg #[.int .i64 0, .int .i64 0, .int .u64 0, .int .i64 1, .int .i64 0, .int .i64 0, .slice d3 d2 d0, .int .u64 0]] c6 fun cx a0 => ∃ (a7 : Int) (az : Int) (bf : Int) (c1 : Int) (bw : Int) (b7 : Int) (ax : Option Addr) (b8 : Nat) (av : Nat) (c0 : Int) (bt : Int), cx = .returned (.tuple #[.agg #[.int .i64 a7, .int .i64 az, .int .u64 bf, .int .i64 c1, .int .i64 bw, .int .i64 b7, .slice ax b8 av, .int .u64 c0], .int .i64 bt]) ∧
 thenW (a0.alloc (.cells #[.int .i64 0, .int .i64 0, .int .u64 0, .int .i64 0, .int .i64 0, .int .i64 0, .slice none 0 0, .int .u64 0] 29)) fun cn =>
 canStore cn ((blk a0.heap.size).add 0) ∧
 thenW (cn.setCell ((blk a0.heap.size).add 0) (.int .i64 a7)) fun cg =>
 canStore cg ((blk a0.heap.size).add 1) ∧
 thenW (cg.setCell ((blk a0.heap.size).add 1) (.int .i64 az)) fun ci =>
 canStore ci ((blk a0.heap.size).add 2) ∧
 thenW (ci.setCell ((blk a0.heap.size).add 2) (.int .u64 bf)) fun ca =>
 canStore ca ((blk a0.heap.size).add 3) ∧
 thenW (ca.setCell ((blk a0.heap.size).add 3) (.int .i64 c1)) fun cd =>
 canStore cd ((blk a0.heap.size).add 4) ∧
 thenW (cd.setCell ((blk a0.heap.size).add 4) (.int .i64 bw)) fun cb =>
 canStore cb ((blk a0.heap.size).add 5) ∧
 thenW (cb.setCell ((blk a0.heap.size).add 5) (.int .i64 b7)) fun c7 =>
 canStore c7 ((blk a0.heap.size).add 6) ∧
 thenW (c7.setCell ((blk a0.heap.size).add 6) (.slice ax b8 av)) fun ch =>
 canStore ch ((blk a0.heap.size).add 7) ∧
 thenW (ch.setCell ((blk a0.heap.size).add 7) (.int .u64 c0)) fun cf =>
 thenW (cf.alloc (.cells #[.int .u8 121] 5)) fun cz =>
 ∃ (ck : Option Addr) (c5 : Nat) (co : Nat) (c4 : World), (convert 23 23 (.slice (some (blk cf.heap.size)) 1 1)).run Try.prog cz = .ok (.slice ck c5 co) c4 ∧
 Calls Try.prog 28 #[.pointer bb, .int .u64 bc, .agg #[.int .i64 0, .int .i64 0, .int .u64 0, .int .i64 1, .int .i64 0, .int .i64 0, .slice ck c5 co, .int .u64 0]] c4 fun ct a1 => ∃ (aj : Int) (b2 : Int) (bg : Int) (bx : Int) (c2 : Int) (aw : Int) (ay : Option Addr) (b4 : Nat) (ba : Nat) (bz : Int) (bs : Int), ct = .returned (.tuple #[.agg #[.int .i64 aj, .int .i64 b2, .int .u64 bg, .int .i64 bx, .int .i64 c2, .int .i64 aw, .slice ay b4 ba, .int .u64 bz], .int .i64 bs]) ∧
 thenW (a1.alloc (.cells #[.int .i64 0, .int .i64 0, .int .u64 0, .int .i64 0, .int .i64 0, .int .i64 0, .slice none 0 0, .int .u64 0] 29)) fun c8 =>
 canStore c8 ((blk a1.heap.size).add 0) ∧
 thenW (c8.setCell ((blk a1.heap.size).add 0) (.int .i64 aj)) fun cl =>
 canStore cl ((blk a1.heap.size).add 1) ∧
 thenW (cl.setCell ((blk a1.heap.size).add 1) (.int .i64 b2)) fun cm =>
 canStore cm ((blk a1.heap.size).add 2) ∧
 thenW (cm.setCell ((blk a1.heap.size).add 2) (.int .u64 bg)) fun cc =>
 canStore cc ((blk a1.heap.size).add 3) ∧
 thenW (cc.setCell ((blk a1.heap.size).add 3) (.int .i64 bx)) fun cq =>
 canStore cq ((blk a1.heap.size).add 4) ∧
 thenW (cq.setCell ((blk a1.heap.size).add 4) (.int .i64 c2)) fun c9 =>
 canStore c9 ((blk a1.heap.size).add 5) ∧
 thenW (c9.setCell ((blk a1.heap.size).add 5) (.int .i64 aw)) fun ce =>
 canStore ce ((blk a1.heap.size).add 6) ∧
 thenW (ce.setCell ((blk a1.heap.size).add 6) (.slice ay b4 ba)) fun cj =>
 canStore cj ((blk a1.heap.size).add 7) ∧
 thenW (cj.setCell ((blk a1.heap.size).add 7) (.int .u64 bz)) fun cw =>
 Calls Try.prog 29 #[] cw fun cu c3 => ∃ (a2 : Option Addr), cu = .returned (.pointer a2) ∧
 ∃ (a4 : Int) (ab : Int) (b3 : Int) (bl : Int) (bk : Int) (am : Int) (ao : Option Addr) (ap : Nat) (ar : Nat) (bj : Int), cellsAt c3 (blk a0.heap.size) [.int .i64 a4, .int .i64 ab, .int .u64 b3, .int .i64 bl, .int .i64 bk, .int .i64 am, .slice ao ap ar, .int .u64 bj] 0 ∧
 ∃ (a6 : Int) (ah : Int) (b9 : Int) (bp : Int) (be : Int) (au : Int) (ai : Option Addr) (a8 : Nat) (ac : Nat) (bh : Int), cellsAt c3 (blk a1.heap.size) [.int .i64 a6, .int .i64 ah, .int .u64 b9, .int .i64 bp, .int .i64 be, .int .i64 au, .slice ai a8 ac, .int .u64 bh] 0 ∧
 Calls Try.prog 30 #[.pointer a2, .pointer bb, .int .u64 br, .agg #[.int .i64 a4, .int .i64 ab, .int .u64 b3, .int .i64 bl, .int .i64 bk, .int .i64 am, .slice ao ap ar, .int .u64 bj, .int .i64 a6, .int .i64 ah, .int .u64 b9, .int .i64 bp, .int .i64 be, .int .i64 au, .slice ai a8 ac, .int .u64 bh]] c3 fun cy bv => ∃ (b0 : Int), cy = .returned (.int .i64 b0) ∧
 bif bt == 0 then (
 bif bs == 0 then (
 bif b0 == 0 then (
 Calls Try.prog 31 #[.pointer a2] bv fun cs bu => ∃ (cp : Bool), cs = .returned (.bool cp) ∧
 bif cp then (
 ∃ (a3 : Int) (aa : Int) (b1 : Int) (bo : Int) (bd : Int) (aq : Int) (ad : Option Addr) (a9 : Nat) (ag : Nat) (bq : Int), cellsAt bu (blk a0.heap.size) [.int .i64 a3, .int .i64 aa, .int .u64 b1, .int .i64 bo, .int .i64 bd, .int .i64 aq, .slice ad a9 ag, .int .u64 bq] 0 ∧
 ∃ (a5 : Int) (al : Int) (b6 : Int) (bi : Int) (bn : Int) (an : Int) (ak : Option Addr) (ae : Nat) (af : Nat) (bm : Int), cellsAt bu (blk a0.heap.size) [.int .i64 a5, .int .i64 al, .int .u64 b6, .int .i64 bi, .int .i64 bn, .int .i64 an, .slice ak ae af, .int .u64 bm] 0 ∧
 Calls Try.prog 14 #[.pointer bb, .int .u64 br, .agg #[.int .i64 a3, .int .i64 aa, .int .u64 b1, .int .i64 bo, .int .i64 bd, .int .i64 aq, .slice ad a9 ag, .int .u64 bq, .int .i64 a5, .int .i64 al, .int .u64 b6, .int .i64 bi, .int .i64 bn, .int .i64 an, .slice ak ae af, .int .u64 bm]] bu fun cv cr => ∃ (b5 : Int), cv = .returned (.int .i64 b5) ∧
 R (.bool (b5 == 8)) cr) else (
 R (.bool false) bu)) else (
 R (.bool false) bv)) else (
 R (.bool false) bv)) else (
 R (.bool false) bv)

theorem cachettelaw23_alive.eq  (R : Value → World → Prop) (w : World) : mfunc Try.prog [] 5 [] R w = cachettelaw23_alive.M  R w := by kernel_rfl
theorem cachettelaw23_alive.ok  {R : Value → World → Prop} {w : World} (h : cachettelaw23_alive.M  R w) : Calls Try.prog 5 #[] w fun e w' => ∃ v, e = .returned v ∧ R v w' :=
  mfunc_ok follows (H := []) (args := []) (by rw [cachettelaw23_alive.eq]; exact h)

def cachettelaw23_alive.N  (R : Value → World → Prop) (w : World) : Prop :=
 Calls Try.prog 6 #[.slice none 0 0] w fun bo bn => ∃ (al : Option Addr), bo = .returned (.pointer al) ∧
 Calls Try.prog 7 #[.pointer al] bn fun bm bk => ∃ (an : Int) (ap : Int), bm = .returned (.tuple #[.int .u64 an, .int .u64 ap]) ∧
 ∀ (bc : World) (q9 : Nat), Ext no bk bc → Blk bc q9 5 [.int .u8 120] → bk.heap.size ≤ q9 → q9 < bc.heap.size →
 ∃ (b7 : Option Addr) (ba : Nat) (bb : Nat) (b8 : World), (convert 23 23 (.slice (some (blk q9)) 1 1)).run Try.prog bc = .ok (.slice b7 ba bb) b8 ∧
 Calls Try.prog 28 #[.pointer al, .int .u64 an, .agg #[.int .i64 0, .int .i64 0, .int .u64 0, .int .i64 1, .int .i64 0, .int .i64 0, .slice b7 ba bb, .int .u64 0]] b8 fun bg b0 => ∃ (a1 : Int) (a4 : Int) (a7 : Int) (ai : Int) (af : Int) (a5 : Int) (a6 : Option Addr) (a2 : Nat) (a3 : Nat) (ah : Int) (aa : Int), bg = .returned (.tuple #[.agg #[.int .i64 a1, .int .i64 a4, .int .u64 a7, .int .i64 ai, .int .i64 af, .int .i64 a5, .slice a6 a2 a3, .int .u64 ah], .int .i64 aa]) ∧
 ∀ (ao : World) (b4 : Nat) (b3 : Nat), Ext no b0 ao → Blk ao b4 5 [.int .u8 121] → b0.heap.size ≤ b4 → b4 < ao.heap.size → Privq b0 b4 [b3] →
 ∃ (b9 : Option Addr) (b5 : Nat) (b6 : Nat) (ar : World), (convert 23 23 (.slice (some (blk b4)) 1 1)).run Try.prog ao = .ok (.slice b9 b5 b6) ar ∧
 Keep [b3] ao ar ∧
 Calls Try.prog 28 #[.pointer al, .int .u64 an, .agg #[.int .i64 0, .int .i64 0, .int .u64 0, .int .i64 1, .int .i64 0, .int .i64 0, .slice b9 b5 b6, .int .u64 0]] ar fun be b1 => ∃ (a9 : Int) (ac : Int) (aq : Int) (ax : Int) (av : Int) (ae : Int) (ak : Option Addr) (ag : Nat) (aj : Nat) (aw : Int) (ab : Int), be = .returned (.tuple #[.agg #[.int .i64 a9, .int .i64 ac, .int .u64 aq, .int .i64 ax, .int .i64 av, .int .i64 ae, .slice ak ag aj, .int .u64 aw], .int .i64 ab]) ∧
 Keep [b3] ar b1 ∧
 ∀ (au : World) (bl : Nat), Ext no b1 au → Priv b1 au [bl] →
 Calls Try.prog 29 #[] au fun bf b2 => ∃ (a0 : Option Addr), bf = .returned (.pointer a0) ∧
 Keep [b3, bl] au b2 ∧
 Calls Try.prog 30 #[.pointer a0, .pointer al, .int .u64 ap, .agg #[.int .i64 a1, .int .i64 a4, .int .u64 a7, .int .i64 ai, .int .i64 af, .int .i64 a5, .slice a6 a2 a3, .int .u64 ah, .int .i64 a9, .int .i64 ac, .int .u64 aq, .int .i64 ax, .int .i64 av, .int .i64 ae, .slice ak ag aj, .int .u64 aw]] b2 fun bh am => ∃ (a8 : Int), bh = .returned (.int .i64 a8) ∧
 Keep [b3] b2 am ∧
 (aa = 0 →
 (ab = 0 →
 (a8 = 0 →
 Calls Try.prog 31 #[.pointer a0] am fun bi ay => ∃ (az : Bool), bi = .returned (.bool az) ∧
 Keep [b3] am ay ∧
 (az = true →
 Calls Try.prog 14 #[.pointer al, .int .u64 ap, .agg #[.int .i64 a1, .int .i64 a4, .int .u64 a7, .int .i64 ai, .int .i64 af, .int .i64 a5, .slice a6 a2 a3, .int .u64 ah, .int .i64 a1, .int .i64 a4, .int .u64 a7, .int .i64 ai, .int .i64 af, .int .i64 a5, .slice a6 a2 a3, .int .u64 ah]] ay fun bd bj => ∃ (ad : Int), bd = .returned (.int .i64 ad) ∧
 R (.bool (ad == 8)) bj) ∧
 (az = false →
 R (.bool false) ay)) ∧
 (a8 ≠ 0 →
 R (.bool false) am)) ∧
 (ab ≠ 0 →
 R (.bool false) am)) ∧
 (aa ≠ 0 →
 R (.bool false) am)

theorem cachettelaw23_alive.up  {R : Value → World → Prop} {w : World} (h : cachettelaw23_alive.N  R w) : cachettelaw23_alive.M  R w := by
  unfold cachettelaw23_alive.M
  unfold cachettelaw23_alive.N at h
  refine h.mono fun de dc h => ?_
  obtain ⟨cl, he, h⟩ := h
  refine ⟨cl, he, ?_⟩
  refine h.mono fun dd bk h => ?_
  obtain ⟨ay, b2, he, h⟩ := h
  refine ⟨ay, b2, he, ?_⟩
  refine thenW_in fun db e8 => ?_
  have h := h db bk.heap.size ((Ext.refl no bk).x_alloc e8) (Blk.of_new e8) ((Ext.refl no bk)).size (size_lt_alloc e8)
  obtain ⟨br, bh, bu, c7, hr, h⟩ := h
  refine ⟨br, bh, bu, c7, hr, ?_⟩
  refine h.mono fun d7 a8 h => ?_
  obtain ⟨a1, a3, a6, af, ag, a7, ac, ab, ad, an, ax, he, h⟩ := h
  refine ⟨a1, a3, a6, af, ag, a7, ac, ab, ad, an, ax, he, ?_⟩
  refine thenW_in fun d0 cw => ?_
  have a0 := Blk.of_new cw
  have av := ((Ext.refl no a8)).size
  have bf := (Ext.refl no a8).x_alloc cw
  refine ⟨a0.cani 0 rfl rfl, thenW_in fun c3 cp => ?_⟩
  have bx := bf.x_set (q := a8.heap.size) (i := 0) rfl (.inr av) cp
  have a0 : Blk c3 a8.heap.size 29 [.int .i64 a1, .int .i64 0, .int .u64 0, .int .i64 0, .int .i64 0, .int .i64 0, .slice none 0 0, .int .u64 0] := a0.seti 0 rfl cp
  refine ⟨a0.cani 1 rfl rfl, thenW_in fun bd cs => ?_⟩
  have bp := bx.x_set (q := a8.heap.size) (i := 1) rfl (.inr av) cs
  have a0 : Blk bd a8.heap.size 29 [.int .i64 a1, .int .i64 a3, .int .u64 0, .int .i64 0, .int .i64 0, .int .i64 0, .slice none 0 0, .int .u64 0] := a0.seti 1 rfl cs
  refine ⟨a0.cani 2 rfl rfl, thenW_in fun bg cv => ?_⟩
  have bz := bp.x_set (q := a8.heap.size) (i := 2) rfl (.inr av) cv
  have a0 : Blk bg a8.heap.size 29 [.int .i64 a1, .int .i64 a3, .int .u64 a6, .int .i64 0, .int .i64 0, .int .i64 0, .slice none 0 0, .int .u64 0] := a0.seti 2 rfl cv
  refine ⟨a0.cani 3 rfl rfl, thenW_in fun be cq => ?_⟩
  have bo := bz.x_set (q := a8.heap.size) (i := 3) rfl (.inr av) cq
  have a0 : Blk be a8.heap.size 29 [.int .i64 a1, .int .i64 a3, .int .u64 a6, .int .i64 af, .int .i64 0, .int .i64 0, .slice none 0 0, .int .u64 0] := a0.seti 3 rfl cq
  refine ⟨a0.cani 4 rfl rfl, thenW_in fun b6 cr => ?_⟩
  have ca := bo.x_set (q := a8.heap.size) (i := 4) rfl (.inr av) cr
  have a0 : Blk b6 a8.heap.size 29 [.int .i64 a1, .int .i64 a3, .int .u64 a6, .int .i64 af, .int .i64 ag, .int .i64 0, .slice none 0 0, .int .u64 0] := a0.seti 4 rfl cr
  refine ⟨a0.cani 5 rfl rfl, thenW_in fun bw ct => ?_⟩
  have cj := ca.x_set (q := a8.heap.size) (i := 5) rfl (.inr av) ct
  have a0 : Blk bw a8.heap.size 29 [.int .i64 a1, .int .i64 a3, .int .u64 a6, .int .i64 af, .int .i64 ag, .int .i64 a7, .slice none 0 0, .int .u64 0] := a0.seti 5 rfl ct
  refine ⟨a0.cani 6 rfl rfl, thenW_in fun bl cu => ?_⟩
  have bi := cj.x_set (q := a8.heap.size) (i := 6) rfl (.inr av) cu
  have a0 : Blk bl a8.heap.size 29 [.int .i64 a1, .int .i64 a3, .int .u64 a6, .int .i64 af, .int .i64 ag, .int .i64 a7, .slice ac ab ad, .int .u64 0] := a0.seti 6 rfl cu
  refine ⟨a0.cani 7 rfl rfl, thenW_in fun b1 cx => ?_⟩
  have b0 := bi.x_set (q := a8.heap.size) (i := 7) rfl (.inr av) cx
  have a0 : Blk b1 a8.heap.size 29 [.int .i64 a1, .int .i64 a3, .int .u64 a6, .int .i64 af, .int .i64 ag, .int .i64 a7, .slice ac ab ad, .int .u64 an] := a0.seti 7 rfl cx
  refine thenW_in fun c1 b3 => ?_
  have cy := a0.lt
  have a0 := a0.x_alloc b3
  have h := h c1 b1.heap.size (a8.heap.size) (b0.x_alloc b3) (Blk.of_new b3) (b0).size (size_lt_alloc b3) (Privq.cons av cy Privq.nil)
  obtain ⟨ck, bn, bq, bm, hr, hk, h⟩ := h
  refine ⟨ck, bn, bq, bm, hr, ?_⟩
  have a0 := hk.blk a0 (by simp)
  refine h.mono fun d5 a4 h => ?_
  obtain ⟨a2, a5, aa, al, am, ae, aj, ak, ai, ap, aw, he, hk, h⟩ := h
  refine ⟨a2, a5, aa, al, am, ae, aj, ak, ai, ap, aw, he, ?_⟩
  have a0 := hk.blk a0 (by simp)
  refine thenW_in fun cz bt => ?_
  have a9 := Blk.of_new bt
  have au := ((Ext.refl no a4)).size
  have ah := Nat.ne_of_lt a0.lt
  have a0 := a0.x_alloc bt
  have cb := (Ext.refl no a4).x_alloc bt
  refine ⟨a9.cani 0 rfl rfl, thenW_in fun ci cm => ?_⟩
  have cc := cb.x_set (q := a4.heap.size) (i := 0) rfl (.inr au) cm
  have a0 := a0.oth (q := a4.heap.size) (i := 0) rfl ah cm
  have a9 : Blk ci a4.heap.size 29 [.int .i64 a2, .int .i64 0, .int .u64 0, .int .i64 0, .int .i64 0, .int .i64 0, .slice none 0 0, .int .u64 0] := a9.seti 0 rfl cm
  refine ⟨a9.cani 1 rfl rfl, thenW_in fun bb c8 => ?_⟩
  have cg := cc.x_set (q := a4.heap.size) (i := 1) rfl (.inr au) c8
  have a0 := a0.oth (q := a4.heap.size) (i := 1) rfl ah c8
  have a9 : Blk bb a4.heap.size 29 [.int .i64 a2, .int .i64 a5, .int .u64 0, .int .i64 0, .int .i64 0, .int .i64 0, .slice none 0 0, .int .u64 0] := a9.seti 1 rfl c8
  refine ⟨a9.cani 2 rfl rfl, thenW_in fun bj c2 => ?_⟩
  have c9 := cg.x_set (q := a4.heap.size) (i := 2) rfl (.inr au) c2
  have a0 := a0.oth (q := a4.heap.size) (i := 2) rfl ah c2
  have a9 : Blk bj a4.heap.size 29 [.int .i64 a2, .int .i64 a5, .int .u64 aa, .int .i64 0, .int .i64 0, .int .i64 0, .slice none 0 0, .int .u64 0] := a9.seti 2 rfl c2
  refine ⟨a9.cani 3 rfl rfl, thenW_in fun c4 bc => ?_⟩
  have c6 := c9.x_set (q := a4.heap.size) (i := 3) rfl (.inr au) bc
  have a0 := a0.oth (q := a4.heap.size) (i := 3) rfl ah bc
  have a9 : Blk c4 a4.heap.size 29 [.int .i64 a2, .int .i64 a5, .int .u64 aa, .int .i64 al, .int .i64 0, .int .i64 0, .slice none 0 0, .int .u64 0] := a9.seti 3 rfl bc
  refine ⟨a9.cani 4 rfl rfl, thenW_in fun bv bs => ?_⟩
  have cf := c6.x_set (q := a4.heap.size) (i := 4) rfl (.inr au) bs
  have a0 := a0.oth (q := a4.heap.size) (i := 4) rfl ah bs
  have a9 : Blk bv a4.heap.size 29 [.int .i64 a2, .int .i64 a5, .int .u64 aa, .int .i64 al, .int .i64 am, .int .i64 0, .slice none 0 0, .int .u64 0] := a9.seti 4 rfl bs
  refine ⟨a9.cani 5 rfl rfl, thenW_in fun b9 cd => ?_⟩
  have b5 := cf.x_set (q := a4.heap.size) (i := 5) rfl (.inr au) cd
  have a0 := a0.oth (q := a4.heap.size) (i := 5) rfl ah cd
  have a9 : Blk b9 a4.heap.size 29 [.int .i64 a2, .int .i64 a5, .int .u64 aa, .int .i64 al, .int .i64 am, .int .i64 ae, .slice none 0 0, .int .u64 0] := a9.seti 5 rfl cd
  refine ⟨a9.cani 6 rfl rfl, thenW_in fun ce co => ?_⟩
  have ba := b5.x_set (q := a4.heap.size) (i := 6) rfl (.inr au) co
  have a0 := a0.oth (q := a4.heap.size) (i := 6) rfl ah co
  have a9 : Blk ce a4.heap.size 29 [.int .i64 a2, .int .i64 a5, .int .u64 aa, .int .i64 al, .int .i64 am, .int .i64 ae, .slice aj ak ai, .int .u64 0] := a9.seti 6 rfl co
  refine ⟨a9.cani 7 rfl rfl, thenW_in fun az b4 => ?_⟩
  have b7 := ba.x_set (q := a4.heap.size) (i := 7) rfl (.inr au) b4
  have a0 := a0.oth (q := a4.heap.size) (i := 7) rfl ah b4
  have a9 : Blk az a4.heap.size 29 [.int .i64 a2, .int .i64 a5, .int .u64 aa, .int .i64 al, .int .i64 am, .int .i64 ae, .slice aj ak ai, .int .u64 ap] := a9.seti 7 rfl b4
  have h := h az (a4.heap.size) b7 (Priv.cons au a9.lt Priv.nil)
  refine h.mono fun d1 d9 h => ?_
  obtain ⟨ao, he, hk, h⟩ := h
  refine ⟨ao, he, ?_⟩
  have a0 := hk.blk a0 (by simp)
  have a9 := hk.blk a9 (by simp)
  refine ⟨a1, a3, a6, af, ag, a7, ac, ab, ad, an, ⟨a0.celli 0 rfl rfl, a0.celli 1 rfl rfl, a0.celli 2 rfl rfl, a0.celli 3 rfl rfl, a0.celli 4 rfl rfl, a0.celli 5 rfl rfl, a0.celli 6 rfl rfl, a0.celli 7 rfl rfl, trivial⟩, ?_⟩
  refine ⟨a2, a5, aa, al, am, ae, aj, ak, ai, ap, ⟨a9.celli 0 rfl rfl, a9.celli 1 rfl rfl, a9.celli 2 rfl rfl, a9.celli 3 rfl rfl, a9.celli 4 rfl rfl, a9.celli 5 rfl rfl, a9.celli 6 rfl rfl, a9.celli 7 rfl rfl, trivial⟩, ?_⟩
  refine h.mono fun d2 d8 h => ?_
  obtain ⟨ar, he, hk, h⟩ := h
  refine ⟨ar, he, ?_⟩
  have a0 := hk.blk a0 (by simp)
  refine bif_of (fun b8 => ?_) (fun b8 => ?_)
  · have h := h.1 (beq_t b8)
    refine bif_of (fun cn => ?_) (fun cn => ?_)
    · have h := h.1 (beq_t cn)
      refine bif_of (fun ch => ?_) (fun ch => ?_)
      · have h := h.1 (beq_t ch)
        refine h.mono fun d3 d6 h => ?_
        obtain ⟨c5, he, hk, h⟩ := h
        refine ⟨c5, he, ?_⟩
        have a0 := hk.blk a0 (by simp)
        refine bif_of (fun c0 => ?_) (fun c0 => ?_)
        · have h := h.1 c0
          refine ⟨a1, a3, a6, af, ag, a7, ac, ab, ad, an, ⟨a0.celli 0 rfl rfl, a0.celli 1 rfl rfl, a0.celli 2 rfl rfl, a0.celli 3 rfl rfl, a0.celli 4 rfl rfl, a0.celli 5 rfl rfl, a0.celli 6 rfl rfl, a0.celli 7 rfl rfl, trivial⟩, ?_⟩
          refine ⟨a1, a3, a6, af, ag, a7, ac, ab, ad, an, ⟨a0.celli 0 rfl rfl, a0.celli 1 rfl rfl, a0.celli 2 rfl rfl, a0.celli 3 rfl rfl, a0.celli 4 rfl rfl, a0.celli 5 rfl rfl, a0.celli 6 rfl rfl, a0.celli 7 rfl rfl, trivial⟩, ?_⟩
          refine h.mono fun da d4 h => ?_
          obtain ⟨aq, he, h⟩ := h
          refine ⟨aq, he, ?_⟩
          exact h
        · have h := h.2 c0
          exact h
      · have h := h.2 (beq_f ch)
        exact h
    · have h := h.2 (beq_f cn)
      exact h
  · have h := h.2 (beq_f b8)
    exact h

theorem cachettelaw23_alive.go  {R : Value → World → Prop} {w : World} (h : cachettelaw23_alive.N  R w) : Calls Try.prog 5 #[] w fun e w' => ∃ v, e = .returned v ∧ R v w' := cachettelaw23_alive.ok  (cachettelaw23_alive.up  h)
theorem cachettelaw23_alive.run  {V : Value} {Q : World → Prop} {w : World} (h : cachettelaw23_alive.N  (fun v w' => v = V ∧ Q w') w) : Calls Try.prog 5 #[] w (Ret V Q) := (cachettelaw23_alive.go  h).mono fun e w' ⟨v, he, hv, hq⟩ => ⟨by rw [he, hv], hq⟩

def prfV (a : Ent) (aa : Option Addr) (ac : Nat) (b : Ent) (ba : Option Addr) (bc : Nat) : Value :=
  .agg #[.int .i64 a.w, .int .i64 a.i, .int .u64 a.pv, .int .i64 a.t, .int .i64 a.tw, .int .i64 a.ep, .slice aa a.body.length ac, .int .u64 a.sg, .int .i64 b.w, .int .i64 b.i, .int .u64 b.pv, .int .i64 b.t, .int .i64 b.tw, .int .i64 b.ep, .slice ba b.body.length bc, .int .u64 b.sg]
/-- what a check says. -/
def checkP (hold : Ent → Bool) (a b : Ent) : Int :=
  if ¬ (entRight a = true ∧ entRight b = true) then 1 else if a.w ≠ b.w then 20 else if a.i ≠ b.i then 2 else if a = b then 8 else if ¬ (hold a = true ∧ hold b = true) then 6 else 0
section
variable {w w' : World} {o o' : Own} {k n : Nat} {K : Nat → Prop} {S : OS} {d : List Int} {L : List RRow} {a b : Ent} {aa ba : Option Addr} {ac bc : Nat}
theorem right_F : forkcheck_Proof_right.F a.w a.i a.pv a.t a.tw a.ep aa a.body.length ac a.sg b.w b.i b.pv b.t b.tw b.ep ba b.body.length bc b.sg = if entRight a = true ∧ entRight b = true then 0 else 1 := by
  unfold forkcheck_Proof_right.F
  rw [entRight_F, entRight_F]
  cases entRight a <;> cases entRight b <;> rfl
theorem apart_spec (ha : RowAt w aa (bytesV a.body)) (hb : RowAt w ba (bytesV b.body)) :
    Calls Try.prog 44 #[prfV a aa ac b ba bc] w (Ret (.int .i64 (if a = b then 8 else 0)) fun w' => Ext no w w') := by
  refine forkcheck_Proof_apart.run a.w a.i a.pv a.t a.tw a.ep aa a.body.length ac a.sg b.w b.i b.pv b.t b.tw b.ep ba b.body.length bc b.sg ?_
  unfold forkcheck_Proof_apart.N
  intro w17 X17
  refine (ESame_spec (e := a) (f := b) (ha.no X17) (hb.no X17)).mono fun x w21 ⟨he, X21⟩ => ⟨_, he, fun h => ?_, fun h => ?_⟩
  · rw [if_pos (of_decide_eq_true h)]; exact ⟨rfl, X17.trans X21⟩
  · rw [if_neg (of_decide_eq_false h)]; exact ⟨rfl, X17.trans X21⟩
theorem Check_spec (h : POrc w o k S) (ok : Tags w o) (p : Int) (hfa : entRight a = true → a.fit) (hfb : entRight b = true → b.fit) (ha : RowAt w aa (bytesV a.body)) (hb : RowAt w ba (bytesV b.body)) :
    Calls Try.prog 14 #[.pointer (some (blk k)), .int .u64 p, prfV a aa ac b ba bc] w (Ret (.int .i64 (checkP (holdsE S p) a b)) fun w' => Ext no w w') := by
  refine forkcheck_Check.run (some (blk k)) p a.w a.i a.pv a.t a.tw a.ep aa a.body.length ac a.sg b.w b.i b.pv b.t b.tw b.ep ba b.body.length bc b.sg ?_
  unfold forkcheck_Check.N
  rw [right_F]
  intro w19 p20 X19 hp
  refine ⟨fun q vs w1 => ∃ t : Nat, vs = [.int .i64 t] ∧ q + t = 4 ∧ Ext no w w1 ∧ (0 < t → entRight a = true ∧ entRight b = true) ∧ (1 < t → a.w = b.w) ∧ (2 < t → a.i = b.i) ∧ (3 < t → a ≠ b), 4, ⟨0, rfl, rfl, X19, fun h => absurd h (by decide), fun h => absurd h (by decide), fun h => absurd h (by decide), fun h => absurd h (by decide)⟩, ?_⟩
  rintro q w1 i ⟨t, hi, hq, X1, c0, c1, c2, c3⟩
  simp only [List.cons.injEq, Value.int.injEq, true_and, and_true] at hi
  subst hi
  refine ⟨fun ht => ⟨by omega, by omega, fun h0 => ?_, fun h0 => ?_, fun h0 => ?_, fun h0 => ?_⟩, fun ht => ?_⟩
  · obtain rfl : t = 0 := by omega
    by_cases hr : entRight a = true ∧ entRight b = true
    · rw [if_pos hr]
      exact ⟨fun h => absurd rfl h, fun _ => ⟨by decide, by decide, fun w26 X26 => ⟨q - 1, by omega, 1, rfl, by omega, X1.trans X26, fun _ => hr, fun h => absurd h (by decide), fun h => absurd h (by decide), fun h => absurd h (by decide)⟩⟩⟩
    · rw [if_neg hr]
      exact ⟨fun _ w26 X26 => ⟨by unfold checkP; rw [if_pos hr], X1.trans X26⟩, fun h => absurd h (by decide)⟩
  · obtain rfl : t = 1 := by omega
    unfold forkcheck_Proof_writers.F
    by_cases hr : a.w = b.w
    · rw [if_pos hr]
      exact ⟨fun h => absurd rfl h, fun _ => ⟨by decide, by decide, fun w26 X26 => ⟨q - 1, by omega, 2, rfl, by omega, X1.trans X26, fun _ => c0 (by decide), fun _ => hr, fun h => absurd h (by decide), fun h => absurd h (by decide)⟩⟩⟩
    · rw [if_neg hr]
      exact ⟨fun _ w26 X26 => ⟨by unfold checkP; rw [if_neg (not_not_intro (c0 (by decide))), if_pos hr], X1.trans X26⟩, fun h => absurd h (by decide)⟩
  · obtain rfl : t = 2 := by omega
    unfold forkcheck_Proof_places.F
    by_cases hr : a.i = b.i
    · rw [if_pos hr]
      exact ⟨fun h => absurd rfl h, fun _ => ⟨by decide, by decide, fun w26 X26 => ⟨q - 1, by omega, 3, rfl, by omega, X1.trans X26, fun _ => c0 (by decide), fun _ => c1 (by decide), fun _ => hr, fun h => absurd h (by decide)⟩⟩⟩
    · rw [if_neg hr]
      exact ⟨fun _ w26 X26 => ⟨by unfold checkP; rw [if_neg (not_not_intro (c0 (by decide))), if_neg (not_not_intro (c1 (by decide))), if_pos hr], X1.trans X26⟩, fun h => absurd h (by decide)⟩
  · obtain rfl : t = 3 := by omega
    refine (apart_spec (a := a) (b := b) (ha.no X1) (hb.no X1)).mono fun x w37 ⟨he, X37⟩ => ⟨_, he, X37.kept, fun h => ?_, fun h => ?_⟩
    · by_cases hr : a = b
      · rw [if_pos hr]
        exact ⟨by unfold checkP; rw [if_neg (not_not_intro (c0 (by decide))), if_neg (not_not_intro (c1 (by decide))), if_neg (not_not_intro (c2 (by decide))), if_pos hr], X1.trans X37⟩
      · rw [if_neg hr] at h; exact absurd rfl h
    · by_cases hr : a = b
      · rw [if_pos hr] at h; exact absurd h (by decide)
      · exact ⟨by decide, by decide, q - 1, by omega, 4, rfl, by omega, X1.trans X37, fun _ => c0 (by decide), fun _ => c1 (by decide), fun _ => c2 (by decide), fun _ => hr⟩
  · obtain rfl : t = 4 := by omega
    have s1 := Step.of_no X1 ok
    have hc : checkP (holdsE S p) a b = if ¬ (holdsE S p a = true ∧ holdsE S p b = true) then 6 else 0 := by
      unfold checkP
      rw [if_neg (not_not_intro (c0 (by decide))), if_neg (not_not_intro (c1 (by decide))), if_neg (not_not_intro (c2 (by decide))), if_neg (c3 (by decide))]
    rw [hc]
    refine (HoldsO (h.step s1 id) s1.ok p (e := a) hfa (ha.no X1)).mono fun x w29 ⟨he, X29⟩ => ⟨_, he, X29.kept, fun hh => ⟨by rw [if_pos (fun q => by rw [hh] at q; cases q.1)], X1.trans X29⟩, fun hh => ?_⟩
    have s2 := s1.trans (Step.of_no X29 s1.ok)
    refine (HoldsO (h.step s2 id) s2.ok p (e := b) hfb ((hb.no X1).no X29)).mono fun x w33 ⟨he, X33⟩ => ⟨_, he, fun hk => ⟨by rw [if_pos (fun q => by rw [hk] at q; cases q.2)], (X1.trans X29).trans X33⟩, fun hk => ⟨by rw [if_neg (not_not_intro ⟨hh, hk⟩)], (X1.trans X29).trans X33⟩⟩
end
end Go.Proofs.Ytfmdpjhkojbocaa

/- Forkcheck: the alarm; the chapter's example. -/
set_option linter.unusedVariables false
set_option linter.unusedSimpArgs false
set_option maxRecDepth 20000
set_option maxHeartbeats 2000000
namespace Go.Proofs.Ytfmdpjhkojbocaa
open Go Go.Mx Go.Proofs
open W (OwnB GivesW numR countR doneR zig unzig intR)
theorem inf44 : (Try.prog.info? 44).map (fun i => (i.zero, i.size, i.bytes)) = some (some (.agg #[.int .i64 0, .int .i64 0, .int .u64 0, .int .i64 0, .int .i64 0, .int .i64 0, .slice none 0 0, .int .u64 0, .int .i64 0, .int .i64 0, .int .u64 0, .int .i64 0, .int .i64 0, .int .i64 0, .slice none 0 0, .int .u64 0]), 16, 160) := by kernel_rfl
def i64V (n : Int) : Value := .int .i64 n
/-- a proof, and where its bytes lie. -/
def PrfV (w : World) (o : Own) (p : Ent × Ent) (v : Value) : Prop :=
  ∃ aa ac ba bc, v = prfV p.1 aa ac p.2 ba bc ∧ Row w o aa (bytesV p.1.body) ∧ Row w o ba (bytesV p.2.body) ∧ p.1.body.length ≤ ac ∧ p.2.body.length ≤ bc
def PrfL (w : World) (o : Own) : List (Int × (Ent × Ent)) → List (Int × Value) → Prop
  | [], [] => True
  | p :: r, q :: s => p.1 = q.1 ∧ PrfV w o p.2 q.2 ∧ PrfL w o r s
  | _, _ => False
section
variable {w w' : World} {o o' : Own} {k j n : Nat} {K : Nat → Prop} {S : OS} {a b : Ent} {aa ba : Option Addr} {ac bc : Nat}
theorem PrfV.step {p : Ent × Ent} {v : Value} (h : PrfV w o p v) (s : Step K w o w' o') : PrfV w' o' p v := by
  obtain ⟨aa, ac, ba, bc, h1, h2, h3, h4⟩ := h
  exact ⟨aa, ac, ba, bc, h1, h2.step s, h3.step s, h4⟩
theorem PrfL.step (s : Step K w o w' o') : ∀ {l : List (Int × (Ent × Ent))} {lv : List (Int × Value)}, PrfL w o l lv → PrfL w' o' l lv
  | [], [], _ => trivial
  | p :: r, q :: t, h => ⟨h.1, h.2.1.step s, PrfL.step s h.2.2⟩
  | [], _ :: _, h => h.elim
  | _ :: _, [], h => h.elim
theorem PrfL.look : ∀ {l : List (Int × (Ent × Ent))} {lv : List (Int × Value)}, PrfL w o l lv → ∀ x, (alook l x = none ∧ mlook lv x = none) ∨ ∃ s v, alook l x = some s ∧ mlook lv x = some v ∧ PrfV w o s v
  | [], [], _, x => .inl ⟨rfl, rfl⟩
  | p :: r, q :: s, h, x => by
    obtain ⟨h1, h2, h3⟩ := h
    simp only [alook, mlook, ← h1]
    by_cases hp : p.1 = x
    · rw [if_pos hp, if_pos hp]; exact .inr ⟨_, _, rfl, rfl, h2⟩
    · rw [if_neg hp, if_neg hp]; exact PrfL.look h3 x
  | [], _ :: _, h, _ => h.elim
  | _ :: _, [], h, _ => h.elim
theorem PrfL.put {x : Int} {t : Ent × Ent} {v : Value} (hv : PrfV w o t v) : ∀ {l : List (Int × (Ent × Ent))} {lv : List (Int × Value)}, PrfL w o l lv → PrfL w o (aput l x t) (mput lv x v)
  | [], [], _ => ⟨rfl, hv, trivial⟩
  | p :: r, q :: s, h => by
    obtain ⟨h1, h2, h3⟩ := h
    simp only [aput, mput, ← h1]
    by_cases hp : p.1 = x
    · rw [if_pos hp, if_pos hp]; exact ⟨rfl, hv, h3⟩
    · rw [if_neg hp, if_neg hp]; exact ⟨h1, h2, PrfL.put hv h3⟩
  | [], _ :: _, h => h.elim
  | _ :: _, [], h => h.elim
theorem PrfL.len : ∀ {l : List (Int × (Ent × Ent))} {lv : List (Int × Value)}, PrfL w o l lv → l.length = lv.length
  | [], [], _ => rfl
  | p :: r, q :: s, h => by simp [PrfL.len h.2.2]
  | [], _ :: _, h => h.elim
  | _ :: _, [], h => h.elim
/-- an alarm. -/
def Alm (w : World) (o : Own) (k : Nat) (l : List (Int × (Ent × Ent))) : Prop :=
  o k = some k ∧ ∃ q lv, Blk w k 122 [.map (some q)] ∧ MapIs w q i64V lv ∧ o q = some k ∧ q ≠ k ∧ PrfL w o l lv
theorem Alm.lt {l : List (Int × (Ent × Ent))} (h : Alm w o k l) : k < w.heap.size := by obtain ⟨_, q, lv, hb, _⟩ := h; exact hb.lt
theorem Alm.step {l : List (Int × (Ent × Ent))} (h : Alm w o k l) (s : Step K w o w' o') (hk : ¬ K k) : Alm w' o' k l := by
  have hlt := h.lt
  obtain ⟨h0, q, lv, h1, h2, h3, h4, h5⟩ := h
  refine ⟨(s.own hlt).trans h0, q, lv, s.blk h1 h0 hk, ?_, (s.own h2.lt).trans h3, h4, h5.step s⟩
  have hq := s.at h2.lt fun i hi => by rw [h3] at hi; cases hi; exact hk
  obtain ⟨es, cl, e1, e2⟩ := h2
  exact ⟨es, cl, hq.trans e1, e2⟩
theorem sClone_spec {a : Option Addr} {c : Nat} {bs : List UInt8} (h : RowAt w a (bytesV bs)) (hl : bs.length ≤ 1000000) :
    Calls Try.prog 70 #[.slice a bs.length c] w (fun e w' => ∃ a' c', e = .returned (.slice a' bs.length c') ∧ OwnB w.heap.size w' a' c' bs ∧ Ext no w w') := by
  refine (slices_Clone_byte_byte.go _ _ _ (R := fun v w' => ∃ a' c', v = (.slice a' bs.length c') ∧ OwnB w.heap.size w' a' c' bs ∧ Ext no w w') ?_).mono fun e w' ⟨v, he, a, c, hv, hw⟩ => ⟨a, c, by rw [he, hv], hw⟩
  unfold slices_Clone_byte_byte.N
  refine ⟨fun hn => ?_, fun hn w2 q X hb hq hq' => ?_⟩
  · subst hn
    have : bs = [] := by simpa [bytesV] using h.none_nil
    subst this
    exact ⟨none, 0, rfl, OwnB.nil _ _, Ext.refl _ _⟩
  · have hO : OwnB w.heap.size w2 (some (blk q)) 0 [] := ⟨owns_of_blk hb rfl (Nat.zero_le _), fun ad ha => by cases ha; exact ⟨hq, hq'⟩⟩
    obtain ⟨a', c', w', hr, hO', hx⟩ := hO.append (t := 23) (ty := 23) Try.underlying23 X.size (xc := c) (h.no X) (by simp; omega)
    rw [List.nil_append] at hr hO'
    exact ⟨a', _, c', w', hr, a', c', rfl, hO', X.then hx fun b hb => .inr hb⟩
theorem fOwn_spec (ok : Tags w o) {e : Ent} {a : Option Addr} {c : Nat} (h : Row w o a (bytesV e.body)) (hl : e.body.length ≤ 1000000) :
    Calls Try.prog 39 #[entV e a c] w (fun x w' => ∃ o' a' c', x = .returned (entV e a' c') ∧ Step no w o w' o' ∧ Row w' o' a' (bytesV e.body) ∧ e.body.length ≤ c') := by
  refine (forkcheck_own.go e.w e.i e.pv e.t e.tw e.ep a e.body.length c e.sg (R := fun v w' => ∃ o' a' c', v = (entV e a' c') ∧ Step no w o w' o' ∧ Row w' o' a' (bytesV e.body) ∧ e.body.length ≤ c') ?_).mono fun x w' ⟨v, he, o', a, c, hv, hw⟩ => ⟨o', a, c, by rw [he, hv], hw⟩
  unfold forkcheck_own.N
  intro w10 p11 p12 X10 hp
  obtain ⟨s10, M10⟩ := Step.priv X10 hp ok
  have g11 := hp p11 (by simp)
  have g12 := hp p12 (by simp)
  refine (sClone_spec (h.step s10).1 hl).mono fun x w15 ⟨ca, cc, he, hO, X15⟩ => ⟨_, _, _, he, X15.kept, fun w24 X24 => ?_⟩
  have s15 := Step.of_no X15 s10.ok
  have s24 := Step.stores X24 s15.ok (M10.step s15) (by simp [or_comm])
  exact ⟨_, ca, cc, rfl, (s10.trans s15).trans' s24 (fun i hi => .inr (by simp at hi; omega)), (OwnB.tight hO (Nat.le_refl _)).step s24, hO.le⟩
theorem NewAlarm_spec (ok : Tags w o) : Calls Try.prog 29 #[] w (fun x w' => ∃ k o', x = .returned (.pointer (some (blk k))) ∧ w.heap.size ≤ k ∧ Step no w o w' o' ∧ Alm w' o' k []) := by
  refine (forkcheck_NewAlarm.go (R := fun v w' => ∃ k o', v = (.pointer (some (blk k))) ∧ w.heap.size ≤ k ∧ Step no w o w' o' ∧ Alm w' o' k []) ?_).mono fun x w' ⟨v, he, k, o', hv, hw⟩ => ⟨k, o', by rw [he, hv], hw⟩
  unfold forkcheck_NewAlarm.N
  intro w1 q2 X1 hm hq hq' w3 q4 X3 hb h4 h4'
  have s1 := Step.of_no (X1.trans X3) ok
  have l3 := X3.size
  refine ⟨q4, tag (tag (grow w o) q2 q4) q4 q4, rfl, by omega, (s1.tag hq h4').tag (by omega) h4', tag_self, q2, [], hb, ?_, ?_, by omega, trivial⟩
  · have : MapIs w1 q2 i64V [] := ⟨#[], 0, hm, rfl, by simp, by simp⟩
    exact this.ext X3 id
  · rw [tag_ne (by omega)]; exact tag_self
theorem On_spec {l : List (Int × (Ent × Ent))} (h : Alm w o k l) : Calls Try.prog 31 #[.pointer (some (blk k))] w (Ret (.bool (decide (l ≠ []))) fun w' => w' = w) := by
  obtain ⟨h0, q, lv, h1, h2, h3, h4, h5⟩ := h
  refine forkcheck_Alarm_On.run _ ?_
  unfold forkcheck_Alarm_On.N
  refine ⟨fun _ => ⟨_, rfl, some q, h1.cella (i := 0) rfl, lv.length, h2.len Try.underlying120, ?_, rfl⟩, fun h => by cases h⟩
  congr 1
  rw [decide_eq_decide, ← h5.len]
  cases l <;> simp
def raiseP (S : OS) (p : Int) (l : List (Int × (Ent × Ent))) (a b : Ent) : Int × List (Int × (Ent × Ent)) :=
  if checkP (holdsE S p) a b = 0 then (0, match alook l a.w with | some _ => l | none => aput l a.w (a, b)) else (checkP (holdsE S p) a b, l)
theorem Raise_spec {l : List (Int × (Ent × Ent))} (A : Alm w o j l) (h : POrc w o k S) (ok : Tags w o) (hkj : k ≠ j) (p : Int) (hfa : entRight a = true → a.fit) (hfb : entRight b = true → b.fit) (ha : Row w o aa (bytesV a.body)) (hb : Row w o ba (bytesV b.body)) (la : a.body.length ≤ 1000000) (lb : b.body.length ≤ 1000000) :
    Calls Try.prog 30 #[.pointer (some (blk j)), .pointer (some (blk k)), .int .u64 p, prfV a aa ac b ba bc] w (Gs (fun i => i = j) w o (.int .i64 (raiseP S p l a b).1) fun w' o' => Alm w' o' j (raiseP S p l a b).2) := by
  refine (forkcheck_Alarm_Raise.go (some (blk j)) (some (blk k)) p a.w a.i a.pv a.t a.tw a.ep aa a.body.length ac a.sg b.w b.i b.pv b.t b.tw b.ep ba b.body.length bc b.sg (R := fun v w' => ∃ o', v = (.int .i64 (raiseP S p l a b).1) ∧ Step (fun i => i = j) w o w' o' ∧ Alm w' o' j (raiseP S p l a b).2) ?_).mono fun x w' ⟨v, he, o', hv, hw⟩ => ⟨o', by rw [he, hv], hw⟩
  unfold forkcheck_Alarm_Raise.N
  refine ⟨fun h => (by cases h), fun _ w20 p23 X20 hp => ?_⟩
  obtain ⟨s20, M20⟩ := Step.priv X20 hp ok
  have g23 := hp p23 (by simp)
  have hj := A.lt
  refine (Check_spec (a := a) (b := b) (h.step s20 id) s20.ok p hfa hfb (ha.step s20).1 (hb.step s20).1).mono fun x w26 ⟨he, X26⟩ => ⟨_, he, X26.kept, fun hne => ?_, fun h0 => ?_⟩
  · have s26 := s20.trans (Step.of_no X26 s20.ok)
    unfold raiseP
    rw [if_neg hne]
    exact ⟨_, rfl, s26.none, A.step s26 id⟩
  · have s26 := s20.trans (Step.of_no X26 s20.ok)
    have A26 := A.step s26 id
    have M26 := M20.step (Step.of_no X26 s20.ok)
    obtain ⟨_, q, lv, h1, h2, h3, h4, h5⟩ := id A26
    refine ⟨_, rfl, some q, h1.cella (i := 0) rfl, fun w28 X28 => ?_⟩
    obtain ⟨i, hi, hz, hsz, hby⟩ := info_of inf44
    have hlk := fun (w1 : World) (hm : MapIs w1 q i64V lv) => hm.lookup (keys_int (k := .i64) Try.underlying3) Try.underlying120 hi hz a.w true
    have s28 := s26.trans (Step.of_no X28 s26.ok)
    have m28 := h2.ext X28 id
    have key : ∃ (x y : Ent) (xa : Option Addr) (xc : Nat) (ya : Option Addr) (yc : Nat), ((mlook lv a.w).getD (.agg #[.int .i64 0, .int .i64 0, .int .u64 0, .int .i64 0, .int .i64 0, .int .i64 0, .slice none 0 0, .int .u64 0, .int .i64 0, .int .i64 0, .int .u64 0, .int .i64 0, .int .i64 0, .int .i64 0, .slice none 0 0, .int .u64 0])) = prfV x xa xc y ya yc ∧ (mlook lv a.w).isSome = (alook l a.w).isSome := by
      rcases h5.look a.w with ⟨e1, e2⟩ | ⟨s, v, e1, e2, xa, xc, ya, yc, e3, _⟩
      · rw [e1, e2]; exact ⟨Ent.zero, Ent.zero, none, 0, none, 0, rfl, rfl⟩
      · rw [e1, e2]; exact ⟨s.1, s.2, xa, xc, ya, yc, e3, rfl⟩
    obtain ⟨x, y, xa, xc, ya, yc, key, kis⟩ := key
    have hl28 := hlk w28 m28
    rw [if_pos rfl, key, kis] at hl28
    refine ⟨x.w, x.i, x.pv, x.t, x.tw, x.ep, xa, x.body.length, xc, x.sg, y.w, y.i, y.pv, y.t, y.tw, y.ep, ya, y.body.length, yc, y.sg, (alook l a.w).isSome, hl28, fun w50 p51 X50 hp51 => ?_⟩
    have hl50 := hlk w50 (m28.ext X50 id)
    rw [if_pos rfl, key, kis] at hl50
    obtain ⟨s50', M50⟩ := Step.priv X50 hp51 s28.ok
    have s50 := s28.trans s50'
    have g51 := hp51 p51 (by simp)
    have A50 := A.step s50 id
    have l28 := X28.size
    have l26 := X26.size
    refine ⟨hl50, ((h1.ext X28 id).ext X50 id).cella (i := 0) rfl, fun hno w71 X71 => ?_, fun hyes w69 X69 => ?_⟩
    · have s71' := Step.stores X71 s50.ok M50 (by simp)
      have s71 := s50.trans' s71' fun i hi => .inr (by simp at hi; omega)
      have A71 := A50.step s71' (by simp; omega)
      have hno : alook l a.w = none := by cases hq : alook l a.w with | none => rfl | some z => rw [hq] at hno; cases hno
      obtain ⟨q0, q7, lv7, b1, b2, b3, b4, b5⟩ := id A71
      refine ⟨some q7, b1.cella (i := 0) rfl, ?_⟩
      have M71 : Mine [p23] w71 _ := ((M26.step (Step.of_no X28 s26.ok)).step s50').step s71'
      refine (fOwn_spec (e := a) s71.ok (ha.step s71) la).mono fun x w83 ⟨o83, ca, cc, he, s83', rc, lc⟩ => ⟨_, _, _, _, _, _, _, _, _, _, he, M71.keep s83' (fun _ _ => id), (s83'.blk b1 q0 id).cella (i := 0) rfl, ?_⟩
      have s83 := s71.trans s83'
      refine (fOwn_spec (e := b) s83.ok (hb.step s83) lb).mono fun x w94 ⟨o94, da, dc, he, s94', rd, ld⟩ => ⟨_, _, _, _, _, _, _, _, _, _, he, (M71.step s83').keep s94' (fun _ _ => id), (s94'.blk (s83'.blk b1 q0 id) ((s83'.own A71.lt).trans q0) id).cella (i := 0) rfl, ?_⟩
      have s94 := s83.trans s94'
      have A94 := (A71.step s83' id).step s94' id
      have s7194 := s83'.trans s94'
      have m94 : MapIs w94 q7 i64V lv7 := by
        have hq := s7194.at b2.lt fun i hi => id
        obtain ⟨es, cl, e1, e2⟩ := b2
        exact ⟨es, cl, hq.trans e1, e2⟩
      obtain ⟨w96, hu, hm, hx⟩ := m94.update (keys_int (k := .i64) Try.underlying3) Try.underlying120 a.w (prfV a ca cc b da dc)
      refine ⟨w96, hu, ?_⟩
      have X96 := hx (fun b => b = q7) rfl
      have tq : o94 q7 = some j := (s7194.own b2.lt).trans b3
      have s96' := Step.of_ext X96 s94.ok (p := j) fun b hb _ => by subst hb; exact tq
      have s96 := s94.none.trans s96'
      have hr : raiseP S p l a b = (0, aput l a.w (a, b)) := by unfold raiseP; rw [if_pos h0, hno]
      rw [hr]
      have lt94 := A94.lt
      refine ⟨_, rfl, s96, (s96'.own lt94).trans A94.1, q7, _, ((s94'.blk (s83'.blk b1 q0 id) ((s83'.own A71.lt).trans q0) id)).ext X96 (fun e => b4 e.symm), hm, (s96'.own (Nat.lt_of_lt_of_le b2.lt s7194.size)).trans tq, b4, ?_⟩
      exact PrfL.put ⟨ca, cc, da, dc, rfl, (rc.step s94').step s96', rd.step s96', lc, ld⟩ ((b5.step s7194).step s96')
    · have s69' := Step.stores X69 s50.ok M50 (by simp)
      have s69 := s50.trans' s69' fun i hi => .inr (by simp at hi; omega)
      have hr : raiseP S p l a b = (0, l) := by
        unfold raiseP; rw [if_pos h0]
        cases hq : alook l a.w with | some z => rfl | none => rw [hq] at hyes; cases hyes
      rw [hr]
      exact ⟨_, rfl, s69.none, A50.step s69' (by simp; omega)⟩
end
end Go.Proofs.Ytfmdpjhkojbocaa

/- Forkcheck: the chapter's example. -/
set_option linter.unusedVariables false
set_option linter.unusedSimpArgs false
set_option maxRecDepth 20000
set_option maxHeartbeats 2000000
namespace Go.Proofs.Ytfmdpjhkojbocaa
open Go Go.Mx Go.Proofs
open W (OwnB GivesW numR countR doneR zig unzig intR)
def exA : Ent := ⟨0, 0, 0, 1, 0, 0, [120], 0⟩
def exB : Ent := ⟨0, 0, 0, 1, 0, 0, [121], 0⟩
theorem ex_fact : ∃ S1 S2 S3 : OS, ∃ x y : Ent, pairOf (OS.init []) = ((1, 2), S1) ∧ signE S1 1 exA = ((x, 0), S2) ∧ signE S2 1 exB = ((y, 0), S3) ∧ x.fit ∧ y.fit ∧ x.body.length = 1 ∧ y.body.length = 1 ∧ checkP (holdsE S3 2) x y = 0 ∧ checkP (holdsE S3 2) x x = 8 :=
  ⟨_, _, _, { exA with sg := 3 }, { exB with sg := 4 }, rfl, rfl, rfl, ⟨by decide, by decide, by decide, by decide⟩, ⟨by decide, by decide, by decide, by decide⟩, rfl, rfl, by decide, by decide⟩
theorem alive23_spec (w : World) : Calls Try.prog 5 #[] w (Ret (.bool true) fun w' => Ext no w w') := by
  refine cachettelaw23_alive.run ?_
  unfold cachettelaw23_alive.N
  obtain ⟨S1, S2, S3, x, y, f1, f2, f3, fx, fy, bx, by', f4, f5⟩ := ex_fact
  have ok0 : Tags w (fun _ => none) := fun b j _ h => by cases h
  refine (NewO (l := []) (c := 0) ok0 (RowAt.nil _ _) (by simp)).mono fun v w3 ⟨k, o3, hx, hk, s3, P3⟩ => ⟨_, hx, ?_⟩
  have i0 : OInv (OS.init []) := OInv.init (by simp)
  have nk : ∀ {w1 w2 : World} {o1 o2 : Own}, Step no w (fun _ => none) w1 o1 → Step (fun i => i = k) w1 o1 w2 o2 → Step no w (fun _ => none) w2 o2 := fun h1 h2 => h1.trans' h2 fun i hi => .inr (by omega)
  refine (PairO P3 s3.ok i0.ok (by decide)).mono fun v w7 ⟨o7, hx, s7', P7⟩ => ⟨_, _, hx, ?_⟩
  have i1 := (pair_inv i0).1
  have u1 := (pairOf_ok i0.ok).2
  rw [f1] at P7 i1 u1 ⊢
  dsimp only at u1
  have s7 := nk s3 s7'
  intro w8 q9 X8 hb9 hq9 hq9'
  obtain ⟨w11, hc11, hr11, X11⟩ := litB Try.underlying23 Try.underlying5 [120] X8 hb9 hq9
  refine ⟨_, _, _, w11, hc11, ?_⟩
  have s11' := Step.of_no X11 s7.ok
  have s11 := s7.trans s11'
  have rA : Row w11 (grow w7 o7) (some (blk q9)) (bytesV exA.body) := Row.fresh hr11 fun ad ha => by cases ha; exact hq9
  refine (SignE (P7.step s11' id) s11.ok i1.ok (by have : (OS.init []).used.length = 0 := rfl; show S1.used.length < 1000000; omega) 1 (e := exA) (fun _ => ⟨by decide, by decide, by decide, by decide⟩) rA).mono fun v w22 ⟨o22, xa, xc, hx, s22', P22, rx, lx⟩ => ⟨_, _, _, _, _, _, _, _, _, _, _, hx, ?_⟩
  have i2 := esign_inv i1 1 exA
  have u2 := (signOf_ok i1.ok 1 (textL exA)).2
  have e2 : (signE S1 1 exA).2.used.length ≤ S1.used.length + 1 := by
    unfold signE
    split
    · split <;> exact u2
    · exact Nat.le_succ _
  rw [f2] at P22 rx lx i2 e2 ⊢
  dsimp only at e2
  have s22 := nk s11 s22'
  intro w32 q33 p34 X32 hb33 hq33 hq33' hp34
  have g34 := hp34 p34 (by simp)
  obtain ⟨w36, hc36, hr36, X36⟩ := litB Try.underlying23 Try.underlying5 [121] X32 hb33 hq33
  have k36 : Keep [p34] w32 w36 := fun p hp hl => by
    rw [show p = p34 by simpa using hp] at hl ⊢
    have e := hc36.symm.trans (conv_mark (P := Try.prog) (t := 23) Try.underlying23 Try.underlying5 (n := 1) (c := 1) hb33)
    injection e with _ e
    rw [e]
    exact ((Ext.refl (fun b => b = q33) w32).freeze (x := ⟨q33, _, none⟩) (.inl rfl) 1).block p34 hl (by omega)
  refine ⟨_, _, _, w36, hc36, k36, ?_⟩
  have s36' := Step.of_no X36 s22.ok
  have s36 := s22.trans s36'
  have l36 := X36.size
  have F36 : Free [p34] w36 (grow w22 o22) := fun p hp => by
    rw [show p = p34 by simpa using hp]
    refine ⟨?_, grow_ge g34.1⟩
    have hl := hr36.lt (by simp [bytesV]) rfl
    have : (blk q33).block = q33 := rfl
    omega
  have rB : Row w36 (grow w22 o22) (some (blk q33)) (bytesV exB.body) := Row.fresh hr36 fun ad ha => by cases ha; exact hq33
  refine (SignE (P22.step s36' id) s36.ok i2.ok (by have : (OS.init []).used.length = 0 := rfl; show S2.used.length < 1000000; omega) 1 (e := exB) (fun _ => ⟨by decide, by decide, by decide, by decide⟩) rB).mono fun v w47 ⟨o47, ya, yc, hx, s47', P47, ry, ly⟩ => ⟨_, _, _, _, _, _, _, _, _, _, _, hx, F36.keep s47', fun w56 p57 X56 hp57 => ?_⟩
  rw [f3] at P47 ry ly ⊢
  have s47 := nk s36 s47'
  have F47 := F36.step s47'
  have s56' := Step.of_no X56 s47.ok
  have s56 := s47.trans s56'
  have F56 : Free [p34, p57] w56 (grow w47 o47) := (F47.step s56').app (M := [p57]) (Free.of hp57)
  refine (NewAlarm_spec s56.ok).mono fun v w60 ⟨j, o60, hx, hj, s60', A60⟩ => ⟨_, hx, F56.keep s60', ?_⟩
  have s60 := s56.trans s60'
  have F60 := (F56.step s60').sub (M := [p34]) (by simp)
  have P60 := (P47.step s56' id).step s60' id
  have rx60 := (((rx.step s36').step s47').step s56').step s60'
  have ry60 := (ry.step s56').step s60'
  have hkj : k ≠ j := by
    have := P47.lt
    have := X56.size
    omega
  refine (Raise_spec (a := x) (b := y) A60 P60 s60.ok hkj 2 (fun _ => fx) (fun _ => fy) rx60 ry60 (by omega) (by omega)).mono fun v w63 ⟨o63, hx, s63', A63⟩ => ⟨_, hx, F60.keep s63', fun _ => ⟨fun _ => ⟨fun hr => ?_, fun hr => ?_⟩, fun h => absurd rfl h⟩, fun h => absurd rfl h⟩
  · have hra : raiseP S3 2 [] x y = (0, aput [] x.w (x, y)) := by unfold raiseP; rw [if_pos f4]; rfl
    rw [hra] at A63
    have s63 := s60.trans' s63' fun i hi => .inr (by have := s56.size; omega)
    refine (On_spec A63).mono fun v w69 ⟨he, hw⟩ => ⟨_, he, by subst hw; exact Keep.refl _ _, fun _ => ?_, fun h => by simp [aput] at h⟩
    subst hw
    refine (Check_spec (a := x) (b := x) (P60.step s63' hkj) s63.ok 2 (fun _ => fx) (fun _ => fx) (rx60.step s63').1 (rx60.step s63').1).mono fun v w73 ⟨he, X73⟩ => ⟨_, he, ?_, ?_⟩
    · rw [f5]; rfl
    · exact (s63.ext.mono fun b ⟨_, h, _⟩ _ => by cases h).trans X73
  · have hra : raiseP S3 2 [] x y = (0, aput [] x.w (x, y)) := by unfold raiseP; rw [if_pos f4]; rfl
    rw [hra] at hr
    exact absurd rfl hr
end Go.Proofs.Ytfmdpjhkojbocaa

/- Entries in a row, and where their bytes lie. -/
set_option linter.unusedVariables false
set_option linter.unusedSimpArgs false
set_option maxRecDepth 20000
namespace Go.Proofs.Ytfmdpjhkojbocaa
open Go Go.Mx Go.Proofs
/-- an entry, and where its bytes lie. -/
structure PE where
  e : Ent
  a : Option Addr
  c : Nat
def PE.C (x : PE) : List Value := entC x.e x.a x.c
def PE.ok (w : World) (o : Own) (x : PE) : Prop := Row w o x.a (bytesV x.e.body) ∧ x.e.body.length ≤ x.c ∧ x.e.fit
def PE.Cs (l : List PE) : List Value := l.flatMap PE.C
theorem PE.len (x : PE) : x.C.length = 8 := rfl
theorem PE.Cs_length (l : List PE) : (PE.Cs l).length = l.length * 8 := by
  induction l with
  | nil => rfl
  | cons x r ih => simp only [PE.Cs, List.flatMap_cons, List.length_append, List.length_cons] at ih ⊢; rw [ih, PE.len]; omega
theorem PE.Cs_get : ∀ {l : List PE} {i : Nat} {x : PE}, l[i]? = some x → ∀ j, j < 8 → (PE.Cs l)[i * 8 + j]? = x.C[j]?
  | [], i, x, hi, j, hj => by simp at hi
  | a :: r, 0, x, hi, j, hj => by
    simp only [List.getElem?_cons_zero, Option.some.injEq] at hi
    subst hi
    simp only [PE.Cs, List.flatMap_cons, Nat.zero_mul, Nat.zero_add]
    rw [List.getElem?_append_left (by rw [PE.len]; omega)]
  | a :: r, i + 1, x, hi, j, hj => by
    simp only [List.getElem?_cons_succ] at hi
    have := PE.Cs_get hi j hj
    simp only [PE.Cs, List.flatMap_cons] at this ⊢
    rw [List.getElem?_append_right (by rw [PE.len]; omega), show (i + 1) * 8 + j - a.C.length = i * 8 + j by rw [PE.len]; omega]
    exact this
theorem PE.one (x : PE) : ∀ u ∈ x.C, u.oneCell' = true := fun u hu => by
  simp only [PE.C, entC, List.mem_cons, List.not_mem_nil, or_false] at hu
  rcases hu with rfl | rfl | rfl | rfl | rfl | rfl | rfl | rfl <;> rfl
theorem PE.ok.step {w w' : World} {o o' : Own} {K : Nat → Prop} {x : PE} (h : x.ok w o) (s : Step K w o w' o') : x.ok w' o' := ⟨h.1.step s, h.2⟩
theorem PE.loads {w : World} {la : Option Addr} {ad : Addr} {l : List PE} (hr : RowAt w la (PE.Cs l)) (ha : la = some ad) {i : Nat} {x : PE} (hi : l[i]? = some x) : cellsAt w (ad.add (i * 8)) x.C 0 := by
  subst ha
  have h : ∀ j v, x.C[j]? = some v → w.cell? ((ad.add (i * 8)).add j) = some v := fun j v hv => by
    have hj : j < 8 := by have := (List.getElem?_eq_some_iff.1 hv).1; exact this
    rw [add_add]
    exact hr.at_ ((PE.Cs_get hi j hj).trans hv)
  exact ⟨h 0 _ rfl, h 1 _ rfl, h 2 _ rfl, h 3 _ rfl, h 4 _ rfl, h 5 _ rfl, h 6 _ rfl, h 7 _ rfl, trivial⟩
theorem PE.cell {w : World} {la : Option Addr} {ad : Addr} {l : List PE} (hr : RowAt w la (PE.Cs l)) (ha : la = some ad) {i : Nat} {x : PE} (hi : l[i]? = some x) {j : Nat} {v : Value} (hv : x.C[j]? = some v) : w.cell? ((ad.add (i * 8)).add j) = some v := by
  subst ha
  have hj : j < 8 := by have := (List.getElem?_eq_some_iff.1 hv).1; exact this
  rw [add_add]
  exact hr.at_ ((PE.Cs_get hi j hj).trans hv)
end Go.Proofs.Ytfmdpjhkojbocaa

/- ForkcheckChecks. -/
set_option linter.unusedVariables false
set_option linter.unusedSimpArgs false
set_option maxRecDepth 20000
set_option maxHeartbeats 2000000
namespace Go.Proofs.Ytfmdpjhkojbocaa
open Go Go.Mx Go.Proofs
open W (OwnB GivesW numR countR doneR zig unzig intR)
end Go.Proofs.Ytfmdpjhkojbocaa

/- Entries and a head that are handed in. -/
set_option linter.unusedVariables false
set_option linter.unusedSimpArgs false
set_option maxRecDepth 20000
namespace Go.Proofs.Ytfmdpjhkojbocaa
open Go Go.Mx Go.Proofs
end Go.Proofs.Ytfmdpjhkojbocaa

/- ForkcheckFinds. -/
set_option linter.unusedVariables false
set_option linter.unusedSimpArgs false
set_option maxRecDepth 20000
set_option maxHeartbeats 2000000
namespace Go.Proofs.Ytfmdpjhkojbocaa
open Go Go.Mx Go.Proofs
open W (OwnB GivesW numR countR doneR zig unzig intR)
def zeros : List Value := [.int .i64 0, .int .i64 0, .int .u64 0, .int .i64 0, .int .i64 0, .int .i64 0, .slice none 0 0, .int .u64 0, .int .i64 0, .int .i64 0, .int .u64 0, .int .i64 0, .int .i64 0, .int .i64 0, .slice none 0 0, .int .u64 0]
theorem PrfV.zero (w : World) (o : Own) : PrfV w o (Ent.zero, Ent.zero) (.agg zeros.toArray) := ⟨none, 0, none, 0, rfl, Row.nil _ _ _, Row.nil _ _ _, Nat.le_refl _, Nat.le_refl _⟩
section
variable {w w' : World} {o o' : Own} {k j n : Nat} {K : Nat → Prop} {l1 l2 : List PE} {aa ba : Option Addr} {ac bc : Nat}
end
end Go.Proofs.Ytfmdpjhkojbocaa

/- Vectors: what is right, a writer's place, a writer's head. -/
set_option linter.unusedVariables false
set_option linter.unusedSimpArgs false
set_option maxRecDepth 20000
namespace Go.Proofs.Ytfmdpjhkojbocaa
open Go Go.Mx Go.Proofs
/-- vector.Right -/
def vRight.M (aj : Option Addr) (ah : Nat) (an : Nat) (R : Value → World → Prop) (w : World) : Prop :=
 ∃ (I0 : Nat → List Value → World → Prop) (m3 : Nat), I0 m3 [.int .i64 0] w ∧ ∀ (m4 : Nat) (a7 : World) (t2 : Int), I0 m4 [.int .i64 t2] a7 →
 bif decide (t2 < (ah : Int)) then (
 aj.elim False fun a6 =>
 0 ≤ (t2 : Int) ∧ (t2 : Int) < (ah : Int) ∧
 ∃ (a3 : Int) (aa : Int) (ab : Int), cellsAt a7 (a6.add (Int.toNat t2 * 3)) [.int .i64 a3, .int .i64 aa, .int .u64 ab] 0 ∧
 thenW (a7.alloc (.cells #[.int .i64 0, .int .i64 0, .int .u64 0] 114)) fun ac =>
 canStore ac ((blk a7.heap.size).add 0) ∧
 thenW (ac.setCell ((blk a7.heap.size).add 0) (.int .i64 a3)) fun ad =>
 canStore ad ((blk a7.heap.size).add 1) ∧
 thenW (ad.setCell ((blk a7.heap.size).add 1) (.int .i64 aa)) fun ae =>
 canStore ae ((blk a7.heap.size).add 2) ∧
 thenW (ae.setCell ((blk a7.heap.size).add 2) (.int .u64 ab)) fun ai =>
 thenW (ai.drew) fun af =>
 ∃ (a1 : Int) (a8 : Int) (a9 : Int), cellsAt af (blk a7.heap.size) [.int .i64 a1, .int .i64 a8, .int .u64 a9] 0 ∧
 Calls Try.prog 83 #[.agg #[.int .i64 a1, .int .i64 a8, .int .u64 a9]] af fun ag a5 => ∃ (a0 : Bool), ag = .returned (.bool a0) ∧
 bif !a0 then (
 R (.bool false) a5) else (
 bif decide (t2 > 0) then (
 ∃ (a4 : Int), a5.cell? ((blk a7.heap.size).add 0) = some (.int .i64 a4) ∧
 aj.elim False fun am =>
 0 ≤ ((IntKind.i64.wrap (t2 - 1)) : Int) ∧ ((IntKind.i64.wrap (t2 - 1)) : Int) < (ah : Int) ∧
 ∃ (a2 : Int), a5.cell? ((am.add (Int.toNat (IntKind.i64.wrap (t2 - 1)) * 3)).add 0) = some (.int .i64 a2) ∧
 bif decide (a4 ≤ a2) then (
 R (.bool false) a5) else (
 ∃ al, al < m4 ∧ I0 al [.int .i64 (IntKind.i64.wrap (t2 + 1))] a5)) else (
 ∃ ak, ak < m4 ∧ I0 ak [.int .i64 (IntKind.i64.wrap (t2 + 1))] a5))) else (
 R (.bool true) a7)

theorem vRight.eq (v1a : Option Addr) (v1n : Nat) (v1c : Nat) (R : Value → World → Prop) (w : World) : mfunc Try.prog [(0, [0, 5, 6], [(7, (.one (.int .i64)))])] 72 [.slice v1a v1n v1c] R w = vRight.M v1a v1n v1c R w := by kernel_rfl
theorem vRight.ok (a2 : Option Addr) (a0 : Nat) (a1 : Nat) {R : Value → World → Prop} {w : World} (h : vRight.M a2 a0 a1 R w) : Calls Try.prog 72 #[.slice a2 a0 a1] w fun e w' => ∃ v, e = .returned v ∧ R v w' :=
  mfunc_ok follows (H := [(0, [0, 5, 6], [(7, (.one (.int .i64)))])]) (args := [.slice a2 a0 a1]) (by rw [vRight.eq]; exact h)

/-- vector.rightHead -/
def vrh.M (a2 : Int) (a5 : Int) (a8 : Int) (R : Value → World → Prop) (w : World) : Prop :=
 thenW (w.alloc (.cells #[.int .i64 a2, .int .i64 a5, .int .u64 a8] 114)) fun a3 =>
 ∃ (a0 : Int), a3.cell? ((blk w.heap.size).add 0) = some (.int .i64 a0) ∧
 bif decide (a0 ≥ 0) then (
 ∃ (a1 : Int), a3.cell? ((blk w.heap.size).add 0) = some (.int .i64 a1) ∧
 bif decide (a1 < 8) then (
 ∃ (a4 : Int), a3.cell? ((blk w.heap.size).add 1) = some (.int .i64 a4) ∧
 bif decide (a4 > 0) then (
 ∃ (a7 : Int), a3.cell? ((blk w.heap.size).add 1) = some (.int .i64 a7) ∧
 bif decide (a7 ≤ 200) then (
 ∃ (a6 : Int), a3.cell? ((blk w.heap.size).add 2) = some (.int .u64 a6) ∧
 R (.bool (a6 != 0)) a3) else (
 R (.bool false) a3)) else (
 R (.bool false) a3)) else (
 R (.bool false) a3)) else (
 R (.bool false) a3)

theorem vrh.eq (hWriter1 : Int) (hLen2 : Int) (hSum3 : Int) (R : Value → World → Prop) (w : World) : mfunc Try.prog [] 83 [.agg #[.int .i64 hWriter1, .int .i64 hLen2, .int .u64 hSum3]] R w = vrh.M hWriter1 hLen2 hSum3 R w := by kernel_rfl
theorem vrh.ok (a0 : Int) (a1 : Int) (a2 : Int) {R : Value → World → Prop} {w : World} (h : vrh.M a0 a1 a2 R w) : Calls Try.prog 83 #[.agg #[.int .i64 a0, .int .i64 a1, .int .u64 a2]] w fun e w' => ∃ v, e = .returned v ∧ R v w' :=
  mfunc_ok follows (H := []) (args := [.agg #[.int .i64 a0, .int .i64 a1, .int .u64 a2]]) (by rw [vrh.eq]; exact h)

/-- what a step hands back, and what then is. -/
def GivesV (v : Value) (Q : World → Prop) (e : Ending) (w' : World) : Prop := e = .returned v ∧ Q w'
abbrev Hd := Int × Int × Int
def hdC (h : Hd) : List Value := [.int .i64 h.1, .int .i64 h.2.1, .int .u64 h.2.2]
def hdV (h : Hd) : Value := .agg #[.int .i64 h.1, .int .i64 h.2.1, .int .u64 h.2.2]
def hsC (hs : List Hd) : List Value := hs.flatMap hdC
theorem hsC_length : ∀ hs : List Hd, (hsC hs).length = hs.length * 3
  | [] => rfl
  | h :: r => by
    have := hsC_length r
    simp only [hsC, List.flatMap_cons, List.length_append, List.length_cons] at this ⊢
    rw [this]; simp [hdC]; omega
theorem hsC_get : ∀ {hs : List Hd} {i : Nat} {h : Hd}, hs[i]? = some h → ∀ j, j < 3 → (hsC hs)[i * 3 + j]? = (hdC h)[j]?
  | [], i, h, hi, j, hj => by simp at hi
  | a :: r, 0, h, hi, j, hj => by
    simp only [List.getElem?_cons_zero, Option.some.injEq] at hi
    subst hi
    simp only [hsC, List.flatMap_cons, Nat.zero_mul, Nat.zero_add]
    rw [List.getElem?_append_left (by simp [hdC]; omega)]
  | a :: r, i + 1, h, hi, j, hj => by
    simp only [List.getElem?_cons_succ] at hi
    have := hsC_get hi j hj
    simp only [hsC, List.flatMap_cons] at this ⊢
    rw [List.getElem?_append_right (by simp [hdC]; omega), show (i + 1) * 3 + j - (hdC a).length = i * 3 + j by simp [hdC]; omega]
    exact this
theorem hs_cell {w : World} {ad : Addr} {hs : List Hd} (hr : RowAt w (some ad) (hsC hs)) {i : Nat} {h : Hd} (hi : hs[i]? = some h) {j : Nat} {v : Value} (hv : (hdC h)[j]? = some v) : w.cell? ((ad.add (i * 3)).add j) = some v := by
  have hj : j < 3 := by have := (List.getElem?_eq_some_iff.1 hv).1; simpa [hdC] using this
  rw [add_add]
  exact hr.at_ ((hsC_get hi j hj).trans hv)
theorem hs_at {w : World} {ad : Addr} {hs : List Hd} (hr : RowAt w (some ad) (hsC hs)) {i : Nat} {h : Hd} (hi : hs[i]? = some h) : cellsAt w (ad.add (i * 3)) [.int .i64 h.1, .int .i64 h.2.1, .int .u64 h.2.2] 0 :=
  ⟨hs_cell hr hi (j := 0) rfl, hs_cell hr hi (j := 1) rfl, hs_cell hr hi (j := 2) rfl, trivial⟩
theorem hsC_ne {hs : List Hd} (h : hs ≠ []) : hsC hs ≠ [] := fun e => by
  have := hsC_length hs
  rw [e] at this
  simp at this
  exact h (List.eq_nil_of_length_eq_zero (by omega))

def rhead (h : Hd) : Bool := decide (h.1 ≥ 0) && (decide (h.1 < 8) && (decide (h.2.1 > 0) && (decide (h.2.1 ≤ 200) && (h.2.2 != 0))))
def rightF : Option Int → List Hd → Bool
  | _, [] => true
  | p, h :: r => rhead h && (match p with | none => true | some q => decide (q < h.1)) && rightF (some h.1) r
def rightV (hs : List Hd) : Bool := rightF none hs
def prevOf (hs : List Hd) : Nat → Option Int
  | 0 => none
  | t + 1 => (hs[t]?).map (·.1)
section
variable {w w' : World} {a : Option Addr} {c : Nat} {hs : List Hd}
theorem rightHead_spec (h : Hd) : Calls Try.prog 83 #[hdV h] w (GivesV (.bool (rhead h)) fun w' => Ext no w w') := by
  refine (vrh.ok _ _ _ (R := fun v w' => v = .bool (rhead h) ∧ Ext no w w') ?_).mono fun e w' ⟨v, he, hv, hw⟩ => ⟨by rw [he, hv], hw⟩
  unfold vrh.M
  refine thenW_in fun w4 h4 => ?_
  have hb : Blk w4 w.heap.size 114 (hdC h) := by subst h4; exact Blk.new _ _ _
  have hx : Ext no w w4 := by subst h4; exact (Ext.refl _ _).alloc _
  refine ⟨_, hb.cella (i := 0) rfl, ?_⟩
  unfold rhead
  by_cases c1 : h.1 ≥ 0
  · rw [decide_eq_true c1, cond_true, Bool.true_and]
    refine ⟨_, hb.cella (i := 0) rfl, ?_⟩
    by_cases c2 : h.1 < 8
    · rw [decide_eq_true c2, cond_true, Bool.true_and]
      refine ⟨_, hb.cella (i := 1) rfl, ?_⟩
      by_cases c3 : h.2.1 > 0
      · rw [decide_eq_true c3, cond_true, Bool.true_and]
        refine ⟨_, hb.cella (i := 1) rfl, ?_⟩
        by_cases c4 : h.2.1 ≤ 200
        · rw [decide_eq_true c4, cond_true, Bool.true_and]
          exact ⟨_, hb.cella (i := 2) rfl, rfl, hx⟩
        · rw [decide_eq_false c4]; exact ⟨rfl, hx⟩
      · rw [decide_eq_false c3]; exact ⟨rfl, hx⟩
    · rw [decide_eq_false c2]; exact ⟨rfl, hx⟩
  · rw [decide_eq_false c1]; exact ⟨rfl, hx⟩

theorem Right_spec (hr : RowAt w a (hsC hs)) (hl : hs.length < 1000000) : Calls Try.prog 72 #[.slice a hs.length c] w (GivesV (.bool (rightV hs)) fun w' => Ext no w w') := by
  refine (vRight.ok _ _ _ (R := fun v w' => v = .bool (rightV hs) ∧ Ext no w w') ?_).mono fun e w' ⟨v, he, hv, hw⟩ => ⟨by rw [he, hv], hw⟩
  unfold vRight.M
  refine ⟨fun k vs w1 => ∃ t : Nat, vs = [.int .i64 t] ∧ k + t = hs.length ∧ rightF (prevOf hs t) (hs.drop t) = rightV hs ∧ Ext no w w1, hs.length, ⟨0, rfl, rfl, rfl, Ext.refl _ _⟩, ?_⟩
  rintro k w1 i ⟨t, hi, hk, hf, hx⟩
  simp only [List.cons.injEq, Value.int.injEq, true_and, and_true] at hi
  subst hi
  cases k with
  | zero =>
    obtain rfl : t = hs.length := by omega
    rw [show decide ((hs.length : Int) < (hs.length : Int)) = false by simp, cond_false]
    rw [List.drop_length] at hf
    exact ⟨by rw [← hf]; cases prevOf hs hs.length <;> rfl, hx⟩
  | succ k =>
    have ht : t < hs.length := by omega
    rw [show decide ((t : Int) < (hs.length : Int)) = true by simp; omega, cond_true]
    have hr1 := hr.no hx
    obtain ⟨ad, rfl⟩ := hr1.addr (hsC_ne (by intro e; subst e; simp at ht))
    have hgi : hs[t]? = some hs[t] := List.getElem?_eq_getElem ht
    refine ⟨by omega, by omega, _, _, _, by rw [Int.toNat_natCast]; exact hs_at hr1 hgi, thenW_in fun w10 h10 => ?_⟩
    have hb10 : Blk w10 w1.heap.size 114 [.int .i64 0, .int .i64 0, .int .u64 0] := by subst h10; exact Blk.new _ _ _
    have x10 : Ext no w1 w10 := by subst h10; exact (Ext.refl _ _).alloc _
    refine ⟨hb10.cana (i := 0) rfl, thenW_in fun w11 h11 => ?_⟩
    have hb11 := hb10.seta 0 (.int .i64 hs[t].1)
    rw [← h11] at hb11
    have x11 : Ext no w1 w11 := by subst h11; exact x10.setCell (.inr (by rw [add_zero]; exact Nat.le_refl _)) _
    refine ⟨hb11.cana (i := 1) rfl, thenW_in fun w12 h12 => ?_⟩
    have hb12 := hb11.seta 1 (.int .i64 hs[t].2.1)
    rw [← h12] at hb12
    have x12 : Ext no w1 w12 := by subst h12; exact x11.setCell (.inr (by rw [add_blk]; exact Nat.le_refl _)) _
    refine ⟨hb12.cana (i := 2) rfl, thenW_in fun w13 h13 => thenW_in fun w14 h14 => ?_⟩
    have hb13 := hb12.seta 2 (.int .u64 hs[t].2.2)
    rw [← h13] at hb13
    have x13 : Ext no w1 w13 := by subst h13; exact x12.setCell (.inr (by rw [add_blk]; exact Nat.le_refl _)) _
    have hb14 := hb13.drew
    rw [← h14] at hb14
    have x14 : Ext no w1 w14 := by subst h14; exact x13.drew
    refine ⟨_, _, _, ⟨hb14.cella (i := 0) rfl, hb14.cella (i := 1) rfl, hb14.cella (i := 2) rfl, trivial⟩, ?_⟩
    refine (rightHead_spec hs[t]).mono fun e w20 ⟨he, x20'⟩ => ⟨_, he, ?_⟩
    have x20 := x14.trans x20'
    have hb20 := hb14.ext x20' id
    have hd : hs.drop t = hs[t] :: hs.drop (t + 1) := List.drop_eq_getElem_cons ht
    rw [hd] at hf
    simp only [rightF] at hf
    by_cases c1 : rhead hs[t] = true
    · rw [c1, Bool.not_true, cond_false]
      rw [c1, Bool.true_and] at hf
      have hw1 : IntKind.i64.wrap ((t : Int) + 1) = ((t + 1 : Nat) : Int) := by rw [w64 (by omega) (by omega)]; rfl
      cases t with
      | zero =>
        rw [show decide (((0 : Nat) : Int) > 0) = false from rfl, cond_false]
        exact ⟨k, by omega, 1, by rw [hw1], by omega, by rw [← hf]; simp [prevOf, ht], hx.trans x20⟩
      | succ t =>
        rw [show decide (((t + 1 : Nat) : Int) > 0) = true by simp <;> omega, cond_true]
        have htl : t < hs.length := by omega
        have hgp : hs[t]? = some hs[t] := List.getElem?_eq_getElem htl
        have hw2 : IntKind.i64.wrap (((t + 1 : Nat) : Int) - 1) = (t : Int) := by rw [w64 (by omega) (by omega)] <;> omega
        rw [hw2]
        refine ⟨_, hb20.cella (i := 0) rfl, by omega, by omega, _, by rw [Int.toNat_natCast]; exact hs_cell (hr1.no x20) hgp (j := 0) rfl, ?_⟩
        simp only [prevOf, hgp, Option.map_some] at hf
        by_cases c2 : hs[t + 1].1 ≤ hs[t].1
        · rw [decide_eq_true c2, cond_true]
          rw [decide_eq_false (by omega), Bool.false_and] at hf
          exact ⟨by rw [← hf], hx.trans x20⟩
        · rw [decide_eq_false c2, cond_false]
          rw [decide_eq_true (by omega), Bool.true_and] at hf
          exact ⟨k, by omega, t + 2, by rw [hw1], by omega, by rw [← hf]; simp [prevOf, ht], hx.trans x20⟩
    · have c1' : rhead hs[t] = false := by simpa using c1
      rw [c1', Bool.not_false, cond_true]
      rw [c1', Bool.false_and, Bool.false_and] at hf
      exact ⟨by rw [← hf], hx.trans x20⟩

end
end Go.Proofs.Ytfmdpjhkojbocaa

/- Vectors: writer by writer; how two stand, what is missing, where they are at odds, both together. -/
set_option linter.unusedVariables false
set_option linter.unusedSimpArgs false
set_option maxRecDepth 20000
namespace Go.Proofs.Ytfmdpjhkojbocaa
open Go Go.Mx Go.Proofs
/-- something in two blocks of its own. -/
theorem owns_ext {w w' : World} {m : Nat → Prop} {base e size n : Nat} {v : Value} {xs : List Value} (h : w.ownsRow base e size v n xs) (k : Ext m w w') (hm : ∀ q, v.ownBlock = some q → ¬ m q) : w'.ownsRow base e size v n xs := by
  refine ⟨h.1, ?_⟩
  rcases h.2 with h2 | ⟨g, cap, cur, hv, hb, hg, hr⟩
  · exact .inl h2
  · exact .inr ⟨g, cap, cur, hv, hb, k.get hg (hm g (by rw [hv]; rfl)), hr⟩
section
variable {w w' : World} {aa ba : Option Addr} {ac bc : Nat} {a b : List Hd}
/-! ### Compare -/
/-! ### a list of heads that grows -/
def Grows (N : Nat) (w : World) (A : Nat) (t : TypeId) (l : List Hd) : Prop :=
  ∃ ra rc, Blk w A t [.slice ra l.length rc] ∧ w.ownsRow 0 114 3 (.slice ra l.length rc) l.length (hsC l) ∧ (∀ ad, ra = some ad → N ≤ ad.block ∧ ad.block ≠ A) ∧ N ≤ A
theorem Grows.ext {m : Nat → Prop} {N A : Nat} {t : TypeId} {l : List Hd} (h : Grows N w A t l) (k : Ext m w w') (hm : ∀ b, m b → b < N) : Grows N w' A t l := by
  obtain ⟨ra, rc, h1, h2, h3, h4⟩ := h
  refine ⟨ra, rc, h1.ext k (fun h => by have := hm _ h; omega), owns_ext h2 k fun q hq hmq => ?_, h3, h4⟩
  have := hm _ hmq
  cases ra with
  | none => simp [Value.ownBlock] at hq
  | some ad => simp only [Value.ownBlock, Option.some.injEq] at hq; have := (h3 ad rfl).1; omega
/-! ### Missing -/
end
end Go.Proofs.Ytfmdpjhkojbocaa

/- Vectors: where two are at odds, both together, the chapter's example. -/
set_option linter.unusedVariables false
set_option linter.unusedSimpArgs false
set_option maxRecDepth 20000
namespace Go.Proofs.Ytfmdpjhkojbocaa
open Go Go.Mx Go.Proofs
section
variable {w w' : World} {aa ba : Option Addr} {ac bc : Nat} {a b : List Hd}
/-! ### Conflict -/
/-! ### Merge -/
/-! ### the chapter's example -/
end
end Go.Proofs.Ytfmdpjhkojbocaa

/- VectorTurns: what the law's function answers. -/
set_option linter.unusedVariables false
set_option linter.unusedSimpArgs false
set_option maxRecDepth 20000
namespace Go.Proofs.Ytfmdpjhkojbocaa
open Go Go.Mx Go.Proofs
/-- heads, as they come in. -/
def fitH (h : Hd) : Prop := (Lit.int .i64 h.1).wf = true ∧ (Lit.int .i64 h.2.1).wf = true ∧ (Lit.int .u64 h.2.2).wf = true
def HeadsQ (W : World) (cs : List Value) : Prop := ∃ (a : Option Addr) (c : Nat) (hs : List Hd), cs = [.slice a hs.length c] ∧ hs.length ≤ c ∧ c ≤ maxLen ∧ RowAt W a (hsC hs) ∧ ∀ h ∈ hs, fitH h
def HeadQ (W : World) (cs : List Value) : Prop := ∃ h : Hd, cs = hdC h ∧ fitH h
theorem opens_head : Opens Try.prog 114 HeadQ :=
  (opens_struct (size := 3) Try.underlying114 (by kernel_rfl)).mono fun W cs ⟨hl, h⟩ => by
    match cs, hl with
    | [c0, c1, c2], _ =>
      obtain ⟨n0, e0, f0⟩ := h 0 _ rfl _ (opens_int Try.underlying3)
      obtain ⟨n1, e1, f1⟩ := h 1 _ rfl _ (opens_int Try.underlying3)
      obtain ⟨n2, e2, f2⟩ := h 2 _ rfl _ (opens_int Try.underlying25)
      have ci : Try.prog.cellsOf 3 = 1 := by kernel_rfl
      have cu : Try.prog.cellsOf 25 = 1 := by kernel_rfl
      change List.take (Try.prog.cellsOf 3) (List.drop 0 [c0, c1, c2]) = _ at e0
      change List.take (Try.prog.cellsOf 3) (List.drop 1 [c0, c1, c2]) = _ at e1
      change List.take (Try.prog.cellsOf 25) (List.drop 2 [c0, c1, c2]) = _ at e2
      rw [ci] at e0 e1
      rw [cu] at e2
      simp only [List.drop_zero, List.drop_succ_cons, List.take_succ_cons, List.take_zero, List.cons.injEq, and_true] at e0 e1 e2
      subst e0; subst e1; subst e2
      exact ⟨(n0, n1, n2), rfl, f0, f1, f2⟩
theorem opens_heads : Opens Try.prog 56 HeadsQ :=
  (opens_slice (size := 3) Try.underlying56 (by kernel_rfl) opens_head).mono fun W cs ⟨a, l, c, rows, h1, h2, h3, h4, h5, h6⟩ => by
    obtain ⟨xs, h7, h8⟩ := rows_of (rows := rows) hdC fitH fun r hr => by
      obtain ⟨h, q1, q2⟩ := (h6 r hr).2
      exact ⟨h, q1, q2⟩
    subst h7
    rw [List.length_map] at h4
    subst h4
    exact ⟨a, c, xs, h1, h2, h3, by rw [hsC, List.flatMap_def]; exact h5, h8⟩

end Go.Proofs.Ytfmdpjhkojbocaa

/- A vector's bytes, and the vector of bytes. -/
set_option linter.unusedVariables false
set_option linter.unusedSimpArgs false
set_option maxRecDepth 20000
namespace Go.Proofs.Ytfmdpjhkojbocaa
open Go Go.Mx Go.Proofs
open W (OwnB GivesW numR countR doneR)
/-- vector.Bytes -/
def vBytes.M (az : Option Addr) (an : Nat) (b4 : Nat) (R : Value → World → Prop) (w : World) : Prop :=
 Calls Try.prog 72 #[.slice az an b4] w fun b5 b0 => ∃ (a8 : Bool), b5 = .returned (.bool a8) ∧
 bif !a8 then (
 R (.tuple #[.slice none 0 0, .int .i64 1]) b0) else (
 Calls Try.prog 49 #[.slice none 0 0, .int .u64 (IntKind.u64.wrap (an : Int))] b0 fun b2 b1 => ∃ (ae : Option Addr) (aa : Nat) (ab : Nat), b2 = .returned (.slice ae aa ab) ∧
 ∃ (I0 : Nat → List Value → World → Prop) (b6 : Nat), I0 b6 [.slice ae aa ab, .int .i64 0] b1 ∧ ∀ (ax : Nat) (a0 : World) (ao : Option Addr) (au : Nat) (ar : Nat) (t9 : Int), I0 ax [.slice ao au ar, .int .i64 t9] a0 →
 bif decide (t9 < (an : Int)) then (
 az.elim False fun b3 =>
 0 ≤ (t9 : Int) ∧ (t9 : Int) < (an : Int) ∧
 ∃ (a1 : Int) (a6 : Int) (a5 : Int), cellsAt a0 (b3.add (Int.toNat t9 * 3)) [.int .i64 a1, .int .i64 a6, .int .u64 a5] 0 ∧
 thenW (a0.alloc (.cells #[.int .i64 0, .int .i64 0, .int .u64 0] 114)) fun al =>
 canStore al ((blk a0.heap.size).add 0) ∧
 thenW (al.setCell ((blk a0.heap.size).add 0) (.int .i64 a1)) fun am =>
 canStore am ((blk a0.heap.size).add 1) ∧
 thenW (am.setCell ((blk a0.heap.size).add 1) (.int .i64 a6)) fun ak =>
 canStore ak ((blk a0.heap.size).add 2) ∧
 thenW (ak.setCell ((blk a0.heap.size).add 2) (.int .u64 a5)) fun a9 =>
 ∃ (a2 : Int), a9.cell? ((blk a0.heap.size).add 0) = some (.int .i64 a2) ∧
 ∃ (ac : Int), a9.cell? ((blk a0.heap.size).add 1) = some (.int .i64 ac) ∧
 ∃ (ad : Int), a9.cell? ((blk a0.heap.size).add 2) = some (.int .u64 ad) ∧
 ∃ (I2 : Nat → List Value → World → Prop) (b7 : Nat), I2 b7 [.slice ao au ar, .int .i64 0] a9 ∧ ∀ (av : Nat) (ah : World) (ag : Option Addr) (ai : Nat) (af : Nat) (aj : Int), I2 av [.slice ag ai af, .int .i64 aj] ah →
 bif decide (aj < 3) then (
 0 ≤ (aj : Int) ∧ (aj : Int) < (3 : Int) ∧
 match #[.int .u64 (IntKind.u64.wrap a2), .int .u64 (IntKind.u64.wrap ac), .int .u64 ad][Int.toNat aj * 1]? with
 | some el29 =>
 Calls Try.prog 49 #[.slice ag ai af, el29] ah fun aq ap => ∃ (a7 : Option Addr) (a3 : Nat) (a4 : Nat), aq = .returned (.slice a7 a3 a4) ∧
 ∃ aw, aw < av ∧ I2 aw [.slice a7 a3 a4, .int .i64 (IntKind.i64.wrap (aj + 1))] ap
 | none => False) else (
 ∃ ay, ay < ax ∧ I0 ay [.slice ag ai af, .int .i64 (IntKind.i64.wrap (t9 + 1))] ah)) else (
 R (.tuple #[.slice ao au ar, .int .i64 0]) a0))

theorem vBytes.eq (v1a : Option Addr) (v1n : Nat) (v1c : Nat) (R : Value → World → Prop) (w : World) : mfunc Try.prog [(0, [16, 17], [(4, (.one .slice)), (18, (.one (.int .i64)))]), (2, [16, 17, 18, 30], [(4, (.one .slice)), (31, (.one (.int .i64)))])] 48 [.slice v1a v1n v1c] R w = vBytes.M v1a v1n v1c R w := by kernel_rfl
theorem vBytes.ok (a2 : Option Addr) (a0 : Nat) (a1 : Nat) {R : Value → World → Prop} {w : World} (h : vBytes.M a2 a0 a1 R w) : Calls Try.prog 48 #[.slice a2 a0 a1] w fun e w' => ∃ v, e = .returned v ∧ R v w' :=
  mfunc_ok follows (H := [(0, [16, 17], [(4, (.one .slice)), (18, (.one (.int .i64)))]), (2, [16, 17, 18, 30], [(4, (.one .slice)), (31, (.one (.int .i64)))])]) (args := [.slice a2 a0 a1]) (by rw [vBytes.eq]; exact h)

/-- cachetteref05.Same -/
def rSame5.M (ae : Option Addr) (a9 : Nat) (ag : Nat) (ad : Option Addr) (aa : Nat) (ah : Nat) (R : Value → World → Prop) (w : World) : Prop :=
 bif (a9 : Int) != (aa : Int) then (
 R (.bool false) w) else (
 ∃ (I0 : Nat → List Value → World → Prop) (m4 : Nat), I0 m4 [.int .i64 0] w ∧ ∀ (m5 : Nat) (a7 : World) (i3 : Int), I0 m5 [.int .i64 i3] a7 →
 bif decide (i3 < (a9 : Int)) then (
 thenW (a7.drew) fun a6 =>
 ae.elim False fun a8 =>
 0 ≤ (i3 : Int) ∧ (i3 : Int) < (a9 : Int) ∧
 ∃ (a1 : Int) (a5 : Int) (a3 : Int), cellsAt a6 (a8.add (Int.toNat i3 * 3)) [.int .i64 a1, .int .i64 a5, .int .u64 a3] 0 ∧
 ad.elim False fun af =>
 0 ≤ (i3 : Int) ∧ (i3 : Int) < (aa : Int) ∧
 ∃ (a0 : Int) (a4 : Int) (a2 : Int), cellsAt a6 (af.add (Int.toNat i3 * 3)) [.int .i64 a0, .int .i64 a4, .int .u64 a2] 0 ∧
 ∃ (ac : Bool), (binOp .neq 114 (.agg #[.int .i64 a1, .int .i64 a5, .int .u64 a3]) (.agg #[.int .i64 a0, .int .i64 a4, .int .u64 a2])).run Try.prog a6 = .ok (.bool ac) a6 ∧
 bif ac then (
 R (.bool false) a6) else (
 ∃ ab, ab < m5 ∧ I0 ab [.int .i64 (IntKind.i64.wrap (i3 + 1))] a6)) else (
 R (.bool true) a7))

theorem rSame5.eq (a1a : Option Addr) (a1n : Nat) (a1c : Nat) (b2a : Option Addr) (b2n : Nat) (b2c : Nat) (R : Value → World → Prop) (w : World) : mfunc Try.prog [(0, [0, 1], [(5, (.one (.int .i64)))])] 55 [.slice a1a a1n a1c, .slice b2a b2n b2c] R w = rSame5.M a1a a1n a1c b2a b2n b2c R w := by kernel_rfl
theorem rSame5.ok (a1 : Option Addr) (a4 : Nat) (a3 : Nat) (a0 : Option Addr) (a2 : Nat) (a5 : Nat) {R : Value → World → Prop} {w : World} (h : rSame5.M a1 a4 a3 a0 a2 a5 R w) : Calls Try.prog 55 #[.slice a1 a4 a3, .slice a0 a2 a5] w fun e w' => ∃ v, e = .returned v ∧ R v w' :=
  mfunc_ok follows (H := [(0, [0, 1], [(5, (.one (.int .i64)))])]) (args := [.slice a1 a4 a3, .slice a0 a2 a5]) (by rw [rSame5.eq]; exact h)

/-- cachetteref01.Same -/
def wSame.M (a7 : Option Addr) (a2 : Nat) (aa : Nat) (a6 : Option Addr) (a3 : Nat) (ab : Nat) (R : Value → World → Prop) (w : World) : Prop :=
 bif (a2 : Int) != (a3 : Int) then (
 R (.bool false) w) else (
 ∃ (I0 : Nat → List Value → World → Prop) (m4 : Nat), I0 m4 [.int .i64 0] w ∧ ∀ (m5 : Nat) (a1 : World) (i3 : Int), I0 m5 [.int .i64 i3] a1 →
 bif decide (i3 < (a2 : Int)) then (
 thenW (a1.drew) fun a0 =>
 a7.elim False fun a8 =>
 0 ≤ (i3 : Int) ∧ (i3 : Int) < (a2 : Int) ∧
 ∃ (x9 : Int), a0.cell? (a8.add (Int.toNat i3 * 1)) = some (.int .u8 x9) ∧
 a6.elim False fun a9 =>
 0 ≤ (i3 : Int) ∧ (i3 : Int) < (a3 : Int) ∧
 ∃ (a4 : Int), a0.cell? (a9.add (Int.toNat i3 * 1)) = some (.int .u8 a4) ∧
 bif x9 != a4 then (
 R (.bool false) a0) else (
 ∃ a5, a5 < m5 ∧ I0 a5 [.int .i64 (IntKind.i64.wrap (i3 + 1))] a0)) else (
 R (.bool true) a1))

theorem wSame.eq (a1a : Option Addr) (a1n : Nat) (a1c : Nat) (b2a : Option Addr) (b2n : Nat) (b2c : Nat) (R : Value → World → Prop) (w : World) : mfunc Try.prog [(0, [0, 1], [(5, (.one (.int .i64)))])] 13 [.slice a1a a1n a1c, .slice b2a b2n b2c] R w = wSame.M a1a a1n a1c b2a b2n b2c R w := by kernel_rfl
theorem wSame.ok (a1 : Option Addr) (a4 : Nat) (a3 : Nat) (a0 : Option Addr) (a2 : Nat) (a5 : Nat) {R : Value → World → Prop} {w : World} (h : wSame.M a1 a4 a3 a0 a2 a5 R w) : Calls Try.prog 13 #[.slice a1 a4 a3, .slice a0 a2 a5] w fun e w' => ∃ v, e = .returned v ∧ R v w' :=
  mfunc_ok follows (H := [(0, [0, 1], [(5, (.one (.int .i64)))])]) (args := [.slice a1 a4 a3, .slice a0 a2 a5]) (by rw [wSame.eq]; exact h)


def hdL (h : Hd) : List UInt8 := numL h.1.toNat ++ (numL h.2.1.toNat ++ numL h.2.2.toNat)
def vecL (hs : List Hd) : List UInt8 := numL hs.length ++ hs.flatMap hdL
theorem numL_le (n : Nat) : (numL n).length ≤ 10 := numF_le 10 n
theorem hdL_le (h : Hd) : (hdL h).length ≤ 30 := by
  have := numL_le h.1.toNat; have := numL_le h.2.1.toNat; have := numL_le h.2.2.toNat
  simp only [hdL, List.length_append]; omega
theorem hdsL_le : ∀ hs : List Hd, (hs.flatMap hdL).length ≤ 30 * hs.length
  | [] => Nat.le_refl _
  | h :: r => by
    have := hdsL_le r; have := hdL_le h
    simp only [List.flatMap_cons, List.length_append, List.length_cons]; omega
/-- numbers that can be written. -/
def natH (h : Hd) : Prop := 0 ≤ h.1 ∧ h.1 < 18446744073709551616 ∧ 0 ≤ h.2.1 ∧ h.2.1 < 18446744073709551616 ∧ 0 ≤ h.2.2 ∧ h.2.2 < 18446744073709551616
theorem rhead_nat {h : Hd} (hr : rhead h = true) (hf : 0 ≤ h.2.2 ∧ h.2.2 < 18446744073709551616) : natH h := by
  simp only [rhead, Bool.and_eq_true, decide_eq_true_eq] at hr
  obtain ⟨a, b, c, d, _⟩ := hr
  exact ⟨a, by omega, by omega, by omega, hf.1, hf.2⟩
theorem rightF_head : ∀ {hs : List Hd} {p : Option Int}, rightF p hs = true → ∀ h ∈ hs, rhead h = true
  | [], _, _, h, hh => by simp at hh
  | a :: r, p, hr, h, hh => by
    simp only [rightF, Bool.and_eq_true] at hr
    rcases List.mem_cons.1 hh with rfl | hh
    · exact hr.1.1
    · exact rightF_head hr.2 h hh
theorem OwnB.mono {N M : Nat} {w : World} {a : Option Addr} {c : Nat} {bs : List UInt8} (h : OwnB N w a c bs) (hM : M ≤ N) : OwnB M w a c bs := ⟨h.own, fun ad ha => ⟨Nat.le_trans hM (h.fr ad ha).1, (h.fr ad ha).2⟩⟩

section
variable {w w' : World} {a : Option Addr} {c : Nat} {hs : List Hd}
theorem vBytes_spec (hr : RowAt w a (hsC hs)) (hl : hs.length ≤ 1000) (hn : rightV hs = true → ∀ h ∈ hs, natH h) :
    Calls Try.prog 48 #[.slice a hs.length c] w (fun e w' => Ext no w w' ∧ ((rightV hs = false ∧ e = .returned (.tuple #[.slice none 0 0, .int .i64 1])) ∨ (rightV hs = true ∧ ∃ a' c', e = .returned (.tuple #[.slice a' (vecL hs).length c', .int .i64 0]) ∧ OwnB w.heap.size w' a' c' (vecL hs)))) := by
  refine (vBytes.ok _ _ _ (R := fun v w' => Ext no w w' ∧ ((rightV hs = false ∧ v = .tuple #[.slice none 0 0, .int .i64 1]) ∨ (rightV hs = true ∧ ∃ a' c', v = .tuple #[.slice a' (vecL hs).length c', .int .i64 0] ∧ OwnB w.heap.size w' a' c' (vecL hs)))) ?_).mono fun e w' ⟨v, he, hx, hv⟩ => ⟨hx, hv.imp (fun ⟨h1, h2⟩ => ⟨h1, by rw [he, h2]⟩) (fun ⟨h1, a', c', h2, h3⟩ => ⟨h1, a', c', by rw [he, h2], h3⟩)⟩
  unfold vBytes.M
  refine (Right_spec hr (by omega)).mono fun e w4 ⟨he, x4⟩ => ⟨_, he, ?_⟩
  by_cases hright : rightV hs = true
  · rw [hright, Bool.not_true, cond_false]
    have hnat := hn hright
    rw [wu64 (n := (hs.length : Int)) (by omega) (by omega)]
    refine (W.Num_spec (bs := []) (n := hs.length) (RowAt.nil _ none) (by decide) (by omega)).mono fun e w7 ⟨a7, c7, he, ho7, x7'⟩ => ⟨a7, _, c7, he, ?_⟩
    rw [List.nil_append] at ho7 ⊢
    have x7 := x4.trans x7'
    refine ⟨fun k vs w1 => ∃ (t : Nat) (a1 : Option Addr) (c1 : Nat), vs = [.slice a1 (numL hs.length ++ (hs.take t).flatMap hdL).length c1, .int .i64 t] ∧ k + t = hs.length ∧ OwnB w.heap.size w1 a1 c1 (numL hs.length ++ (hs.take t).flatMap hdL) ∧ Ext no w w1, hs.length,
      ⟨0, a7, c7, by simp, rfl, by simpa using OwnB.mono ho7 x4.size, x7⟩, ?_⟩
    rintro k w12 b0 n0 c0 i ⟨t, a1, c1, hvs, hk, ho, hx⟩
    simp only [List.cons.injEq, Value.int.injEq, Value.slice.injEq, true_and, and_true] at hvs
    obtain ⟨⟨rfl, rfl, rfl⟩, rfl⟩ := hvs
    cases k with
    | zero =>
      obtain rfl : t = hs.length := by omega
      rw [show decide ((hs.length : Int) < (hs.length : Int)) = false by simp, cond_false]
      rw [List.take_length] at ho ⊢
      exact ⟨hx, .inr ⟨rfl, _, _, rfl, ho⟩⟩
    | succ k =>
      have ht : t < hs.length := by omega
      rw [show decide ((t : Int) < (hs.length : Int)) = true by simp; omega, cond_true]
      have hr1 := hr.no hx
      obtain ⟨ad, rfl⟩ := hr1.addr (hsC_ne (by intro e; subst e; simp at ht))
      have hgi : hs[t]? = some hs[t] := List.getElem?_eq_getElem ht
      obtain ⟨m1, m2, m3, m4, m5, m6⟩ := hnat hs[t] (List.getElem_mem ht)
      refine ⟨by omega, by omega, _, _, _, by rw [Int.toNat_natCast]; exact hs_at hr1 hgi, thenW_in fun w17 h17 => ?_⟩
      have hb17 : Blk w17 w12.heap.size 114 [.int .i64 0, .int .i64 0, .int .u64 0] := by subst h17; exact Blk.new _ _ _
      have x17 : Ext no w12 w17 := by subst h17; exact (Ext.refl _ _).alloc _
      refine ⟨hb17.cana (i := 0) rfl, thenW_in fun w18 h18 => ?_⟩
      have hb18 := hb17.seta 0 (.int .i64 hs[t].1)
      rw [← h18] at hb18
      have x18 : Ext no w12 w18 := by subst h18; exact x17.setCell (.inr (by rw [add_zero]; exact Nat.le_refl _)) _
      refine ⟨hb18.cana (i := 1) rfl, thenW_in fun w19 h19 => ?_⟩
      have hb19 := hb18.seta 1 (.int .i64 hs[t].2.1)
      rw [← h19] at hb19
      have x19 : Ext no w12 w19 := by subst h19; exact x18.setCell (.inr (by rw [add_blk]; exact Nat.le_refl _)) _
      refine ⟨hb19.cana (i := 2) rfl, thenW_in fun w20 h20 => ?_⟩
      have hb20 := hb19.seta 2 (.int .u64 hs[t].2.2)
      rw [← h20] at hb20
      have x20 : Ext no w12 w20 := by subst h20; exact x19.setCell (.inr (by rw [add_blk]; exact Nat.le_refl _)) _
      refine ⟨_, hb20.cella (i := 0) rfl, _, hb20.cella (i := 1) rfl, _, hb20.cella (i := 2) rfl, ?_⟩
      -- the three numbers
      have hlen : (numL hs.length ++ (hs.take t).flatMap hdL).length ≤ 10 + 30 * 1000 := by
        have h1 := numL_le hs.length
        have h2 := hdsL_le (hs.take t)
        rw [List.length_take] at h2
        rw [List.length_append]; omega
      have n1 := numL_le hs[t].1.toNat; have n2 := numL_le hs[t].2.1.toNat; have n3 := numL_le hs[t].2.2.toNat
      rw [wu64 m1 m2, wu64 m3 m4]
      generalize hbase : numL hs.length ++ (hs.take t).flatMap hdL = base at *
      have part : ∀ j : Nat, j ≤ 3 → ((([numL hs[t].1.toNat, numL hs[t].2.1.toNat, numL hs[t].2.2.toNat] : List (List UInt8)).take j).flatten).length ≤ 30 := fun j hj => by
        match j, hj with
        | 0, _ => simp
        | 1, _ => simp; omega
        | 2, _ => simp; omega
        | 3, _ => simp; omega
      refine ⟨fun k2 vs w1 => ∃ (j : Nat) (a2 : Option Addr) (c2 : Nat), vs = [.slice a2 (base ++ (([numL hs[t].1.toNat, numL hs[t].2.1.toNat, numL hs[t].2.2.toNat] : List (List UInt8)).take j).flatten).length c2, .int .i64 j] ∧ k2 + j = 3 ∧ OwnB w.heap.size w1 a2 c2 (base ++ (([numL hs[t].1.toNat, numL hs[t].2.1.toNat, numL hs[t].2.2.toNat] : List (List UInt8)).take j).flatten) ∧ Ext no w w1, 3,
        ⟨0, b0, c0, by simp, rfl, by simpa using ho.no x20, hx.trans x20⟩, ?_⟩
      rintro k2 w28 b2 l2 c2 i2 ⟨j, a2', c2', hvs, hk2, ho2, hx2⟩
      simp only [List.cons.injEq, Value.int.injEq, Value.slice.injEq, true_and, and_true] at hvs
      obtain ⟨⟨rfl, rfl, rfl⟩, rfl⟩ := hvs
      cases k2 with
      | zero =>
        obtain rfl : j = 3 := by omega
        rw [show decide (((3 : Nat) : Int) < 3) = false from rfl, cond_false]
        have hnx : base ++ (([numL hs[t].1.toNat, numL hs[t].2.1.toNat, numL hs[t].2.2.toNat] : List (List UInt8)).take 3).flatten = numL hs.length ++ (hs.take (t + 1)).flatMap hdL := by
          rw [← hbase, List.take_add_one (l := hs) (i := t), hgi, Option.toList_some, List.flatMap_append]
          show (numL hs.length ++ (hs.take t).flatMap hdL) ++ (numL hs[t].1.toNat ++ (numL hs[t].2.1.toNat ++ (numL hs[t].2.2.toNat ++ []))) = numL hs.length ++ ((hs.take t).flatMap hdL ++ (hdL hs[t] ++ []))
          simp only [hdL, List.append_nil, List.append_assoc]
        rw [hnx] at ho2 ⊢
        exact ⟨k, by omega, t + 1, _, _, by rw [w64 (by omega) (by omega)]; rfl, by omega, ho2, hx2⟩
      | succ k2 =>
        have hj : j < 3 := by omega
        rw [show decide ((j : Int) < 3) = true by simp; omega, cond_true]
        refine ⟨by omega, by omega, ?_⟩
        rw [Int.toNat_natCast, Nat.mul_one]
        have hp := part j (by omega)
        -- one number more
        have step : ∀ (n : Nat), n < 18446744073709551616 → (([numL hs[t].1.toNat, numL hs[t].2.1.toNat, numL hs[t].2.2.toNat] : List (List UInt8))[j]? = some (numL n)) → ∀ x : Int, x = (n : Int) →
            Calls Try.prog 49 #[.slice b2 (base ++ (([numL hs[t].1.toNat, numL hs[t].2.1.toNat, numL hs[t].2.2.toNat] : List (List UInt8)).take j).flatten).length c2, .int .u64 x] w28 (fun ee31 ww32 => ∃ (num30a : Option Addr) (num30n : Nat) (num30c : Nat), ee31 = .returned (.slice num30a num30n num30c) ∧
              ∃ m33, m33 < k2 + 1 ∧ ∃ (j' : Nat) (a2 : Option Addr) (c2 : Nat), [Value.slice num30a num30n num30c, .int .i64 (IntKind.i64.wrap ((j : Int) + 1))] = [.slice a2 (base ++ (([numL hs[t].1.toNat, numL hs[t].2.1.toNat, numL hs[t].2.2.toNat] : List (List UInt8)).take j').flatten).length c2, .int .i64 j'] ∧ m33 + j' = 3 ∧ OwnB w.heap.size ww32 a2 c2 (base ++ (([numL hs[t].1.toNat, numL hs[t].2.1.toNat, numL hs[t].2.2.toNat] : List (List UInt8)).take j').flatten) ∧ Ext no w ww32) := fun n hn64 hj2 x hx' => by
          subst hx'
          refine (W.Num_spec (c := c2) ho2.row (by rw [List.length_append]; omega) hn64).mono fun e w32 ⟨a3, c3, he, ho3, x3⟩ => ⟨a3, _, c3, he, k2, by omega, j + 1, a3, c3, ?_, by omega, ?_, hx2.trans x3⟩
          · rw [w64 (by omega) (by omega), List.take_add_one, hj2]
            simp [List.append_assoc]
          · rw [List.take_add_one, hj2]
            have := OwnB.mono ho3 hx2.size
            simpa [List.append_assoc] using this
        rcases (by omega : j = 0 ∨ j = 1 ∨ j = 2) with rfl | rfl | rfl
        · exact step hs[t].1.toNat (by omega) rfl hs[t].1 (by omega)
        · exact step hs[t].2.1.toNat (by omega) rfl hs[t].2.1 (by omega)
        · exact step hs[t].2.2.toNat (by omega) rfl hs[t].2.2 (by omega)
  · rw [show rightV hs = false by simpa using hright, Bool.not_false, cond_true]
    exact ⟨x4, .inl ⟨rfl, rfl⟩⟩

/-! ### reading -/
end
end Go.Proofs.Ytfmdpjhkojbocaa

/- The vector of bytes; VectorBack. -/
set_option linter.unusedVariables false
set_option linter.unusedSimpArgs false
set_option maxRecDepth 20000
namespace Go.Proofs.Ytfmdpjhkojbocaa
open Go Go.Mx Go.Proofs
open W (OwnB GivesW numR countR doneR)
section
variable {w w' : World} {a : Option Addr} {c : Nat} {hs : List Hd}
theorem eqf_step {P : Program} {w : World} {d : Nat} {xs ys : Array Value} {f : Field} {fs : List Field} {a b : Value} {r : Bool} (n : f.name ≠ "_") (qa : (part f.type xs f.offset).run P w = .ok a w) (qb : (part f.type ys f.offset).run P w = .ok b w) (he : (Op.equalIn d f.type a b).run P w = .ok r w) :
    (Op.eqFields d xs ys (f :: fs)).run P w = if r then (Op.eqFields d xs ys fs).run P w else .ok false w := by
  simp only [Op.eqFields, n, ne_eq, not_false_eq_true, if_true, Sem.run_bind, qa, qb, he, Result.andThen_ok]
  cases r <;> simp
/-- are vectors the same? -/
theorem equal_head (w : World) (x y : Hd) : (binOp .neq 114 (hdV x) (hdV y)).run Try.prog w = .ok (.bool (decide (x ≠ y))) w := by
  obtain ⟨f0, f1, f2, ht, n0, n1, n2, o0, o1, o2, p0, p1, p2, u0, u1, u2, hp⟩ : ∃ f0 f1 f2, Try.prog.underlying 114 = some (.struct #[f0, f1, f2]) ∧ f0.name ≠ "_" ∧ f1.name ≠ "_" ∧ f2.name ≠ "_" ∧ f0.offset = 0 ∧ f1.offset = 1 ∧ f2.offset = 2 ∧
      Try.prog.plainKey f0.type = true ∧ Try.prog.plainKey f1.type = true ∧ Try.prog.plainKey f2.type = true ∧ Try.prog.underlying f0.type = some (.int .i64) ∧ Try.prog.underlying f1.type = some (.int .i64) ∧ Try.prog.underlying f2.type = some (.int .u64) ∧ Try.prog.stoodInHeld 114 = false :=
    ⟨_, _, _, Try.underlying114, by decide, by decide, by decide, rfl, rfl, rfl, by kernel_rfl, by kernel_rfl, by kernel_rfl, Try.underlying3, Try.underlying3, Try.underlying25, by kernel_rfl⟩
  have hf : Try.prog.fieldsOf 114 = #[f0, f1, f2] := by simp [Program.fieldsOf, ht]
  unfold hdV
  rw [run_neq_struct, show (10000 : Nat) = 9998 + 1 + 1 from rfl, run_equalIn_struct w (9998 + 1) _ _ _ (by rw [hf]; exact ht) hp, hf]
  have q : ∀ (z : Hd) (i : Nat) (f : Field) (v : Value), Try.prog.plainKey f.type = true → f.offset = i → (#[Value.int .i64 z.1, .int .i64 z.2.1, .int .u64 z.2.2] : Array Value)[i]? = some v → (part f.type #[Value.int .i64 z.1, .int .i64 z.2.1, .int .u64 z.2.2] f.offset).run Try.prog w = .ok v w := fun z i f v h1 h2 h3 => run_part_plain w h1 (by rw [h2]; exact h3)
  show Result.andThen ((Op.eqFields (9998 + 1) _ _ [f0, f1, f2]).run Try.prog w) _ = _
  rw [eqf_step n0 (q x 0 f0 _ p0 o0 rfl) (q y 0 f0 _ p0 o0 rfl) (run_equalIn_int w _ _ _ _ _ _ u0), eqf_step n1 (q x 1 f1 _ p1 o1 rfl) (q y 1 f1 _ p1 o1 rfl) (run_equalIn_int w _ _ _ _ _ _ u1), eqf_step n2 (q x 2 f2 _ p2 o2 rfl) (q y 2 f2 _ p2 o2 rfl) (run_equalIn_int w _ _ _ _ _ _ u2)]
  obtain ⟨x0, x1, x2⟩ := x
  obtain ⟨y0, y1, y2⟩ := y
  by_cases e0 : x0 = y0 <;> by_cases e1 : x1 = y1 <;> by_cases e2 : x2 = y2 <;> simp [e0, e1, e2, Op.eqFields]
theorem same5_spec {aa ba : Option Addr} {ac bc : Nat} {x y : List Hd} (ha : RowAt w aa (hsC x)) (hb : RowAt w ba (hsC y)) (hx : x.length < 1000000) :
    Calls Try.prog 55 #[.slice aa x.length ac, .slice ba y.length bc] w (GivesV (.bool (decide (x = y))) fun w' => Ext no w w') := by
  refine (rSame5.ok _ _ _ _ _ _ (R := fun v w' => v = .bool (decide (x = y)) ∧ Ext no w w') ?_).mono fun e w' ⟨v, he, hv, hw⟩ => ⟨by rw [he, hv], hw⟩
  unfold rSame5.M
  by_cases hl : x.length = y.length
  · have hl' : ((x.length : Int) != (y.length : Int)) = false := by simp [hl]
    rw [hl', cond_false]
    refine ⟨fun k vs w1 => ∃ i : Nat, vs = [.int .i64 i] ∧ k + i = x.length ∧ x.take i = y.take i ∧ Ext no w w1, x.length, ⟨0, rfl, rfl, rfl, Ext.refl _ _⟩, ?_⟩
    rintro k w1 i3 ⟨i, hi, hk, ht, hw⟩
    simp only [List.cons.injEq, Value.int.injEq, true_and, and_true] at hi
    subst hi
    cases k with
    | succ k =>
      have hlt : i < x.length := by omega
      have hi2 : i < y.length := by omega
      rw [show decide ((i : Int) < (x.length : Int)) = true by simp; omega, cond_true]
      refine thenW_in fun w7 h7 => ?_
      have hw7 : Ext no w w7 := hw.trans (by subst h7; exact (Ext.refl _ _).drew)
      have hax := ha.no hw7
      have hby := hb.no hw7
      obtain ⟨ad, rfl⟩ := hax.addr (hsC_ne (by intro e; subst e; simp at hlt))
      obtain ⟨bd, rfl⟩ := hby.addr (hsC_ne (by intro e; subst e; simp at hi2))
      refine ⟨by omega, by omega, _, _, _, by rw [Int.toNat_natCast]; exact hs_at hax (List.getElem?_eq_getElem hlt), by omega, by omega, _, _, _, by rw [Int.toNat_natCast]; exact hs_at hby (List.getElem?_eq_getElem hi2), _, equal_head w7 x[i] y[i], ?_⟩
      by_cases he : x[i] = y[i]
      · rw [decide_eq_false (by simpa using he), cond_false]
        refine ⟨k, by omega, i + 1, by rw [w64 (by omega) (by omega)]; rfl, by omega, ?_, hw7⟩
        rw [List.take_add_one, List.take_add_one, ht]; simp [hlt, hi2, he]
      · rw [decide_eq_true he, cond_true]
        exact ⟨by rw [decide_eq_false]; rintro rfl; exact he rfl, hw7⟩
    | zero =>
      rw [show decide ((i : Int) < (x.length : Int)) = false by simp; omega, cond_false]
      obtain rfl : i = x.length := by omega
      refine ⟨?_, hw⟩
      have : x = y := by
        rw [List.take_length] at ht
        rw [hl, List.take_length] at ht
        exact ht
      simp [this]
  · have hl' : ((x.length : Int) != (y.length : Int)) = true := by simp; omega
    rw [hl', cond_true]
    exact ⟨by rw [decide_eq_false]; rintro rfl; exact hl rfl, Ext.refl _ _⟩
theorem sameB_spec {a b : Option Addr} {c d : Nat} {x y : List UInt8} (ha : RowAt w a (bytesV x)) (hb : RowAt w b (bytesV y)) (hx : x.length < 1000000) :
    Calls Try.prog 13 #[.slice a x.length c, .slice b y.length d] w (GivesV (.bool (decide (x = y))) fun w' => Ext no w w') := by
  refine (wSame.ok _ _ _ _ _ _ (R := fun v w' => v = .bool (decide (x = y)) ∧ Ext no w w') ?_).mono fun e w' ⟨v, he, hv, hw⟩ => ⟨by rw [he, hv], hw⟩
  unfold wSame.M
  by_cases hl : x.length = y.length
  · have hl' : ((x.length : Int) != (y.length : Int)) = false := by simp [hl]
    rw [hl', cond_false]
    refine ⟨fun k vs w1 => ∃ i : Nat, vs = [.int .i64 i] ∧ k = x.length - i ∧ i ≤ x.length ∧ x.take i = y.take i ∧ Ext no w w1, x.length, ⟨0, rfl, rfl, Nat.zero_le _, rfl, Ext.refl _ _⟩, ?_⟩
    rintro k w1 i3 ⟨i, hi, rfl, hle, ht, hw⟩
    simp only [List.cons.injEq, Value.int.injEq, true_and, and_true] at hi
    subst hi
    by_cases hlt : i < x.length
    · have hd : decide ((i : Int) < (x.length : Int)) = true := by simp [hlt]
      rw [hd, cond_true]
      refine thenW_in fun w7 h7 => ?_
      have hw7 : Ext no w w7 := hw.trans (by subst h7; exact (Ext.refl _ _).drew)
      have hi2 : i < y.length := hl ▸ hlt
      have hax := ha.ext hw7 (fun _ _ h => h)
      have hby := hb.ext hw7 (fun _ _ h => h)
      obtain ⟨ad, rfl⟩ := hax.addr (by intro e; rw [bytesV, List.map_eq_nil_iff] at e; subst e; simp at hlt)
      obtain ⟨bd, rfl⟩ := hby.addr (by intro e; rw [bytesV, List.map_eq_nil_iff] at e; subst e; simp at hi2)
      refine ⟨by omega, by omega, x[i].toNat, ?_, by omega, by omega, y[i].toNat, ?_, ?_⟩
      · rw [show Int.toNat (i : Int) * 1 = i by omega]; exact hax.at_ (bytesV_get hlt)
      · rw [show Int.toNat (i : Int) * 1 = i by omega]; exact hby.at_ (bytesV_get hi2)
      · by_cases he : x[i] = y[i]
        · have h1 : ((x[i].toNat : Int) != (y[i].toNat : Int)) = false := by simp [he]
          rw [h1, cond_false]
          refine ⟨x.length - (i + 1), by omega, i + 1, by rw [w64 (by omega) (by omega)]; rfl, rfl, by omega, ?_, hw7⟩
          rw [List.take_add_one, List.take_add_one, ht]; simp [hlt, hi2, he]
        · have h1 : ((x[i].toNat : Int) != (y[i].toNat : Int)) = true := by
            simp only [bne_iff_ne, ne_eq, Int.natCast_inj, UInt8.toNat_inj]; exact he
          rw [h1, cond_true]
          exact ⟨by rw [decide_eq_false]; rintro rfl; exact he rfl, hw7⟩
    · have hd : decide ((i : Int) < (x.length : Int)) = false := by simp; omega
      rw [hd, cond_false]
      obtain rfl : i = x.length := by omega
      refine ⟨?_, hw⟩
      have : x = y := by
        rw [List.take_length] at ht
        rw [hl, List.take_length] at ht
        exact ht
      simp [this]
  · have hl' : ((x.length : Int) != (y.length : Int)) = true := by simp; omega
    rw [hl', cond_true]
    exact ⟨by rw [decide_eq_false]; rintro rfl; exact hl rfl, Ext.refl _ _⟩
end

/-! ### the plain law: what is written is read, and what is read is what was written -/
end Go.Proofs.Ytfmdpjhkojbocaa

/- The reference's vectors: what is right, their bytes. -/
set_option linter.unusedVariables false
set_option linter.unusedSimpArgs false
set_option maxRecDepth 20000
namespace Go.Proofs.Ytfmdpjhkojbocaa
open Go Go.Mx Go.Proofs
open W (OwnB GivesW numR countR doneR)
/-- cachetteref05.Bytes -/
def rBytes5.M (aw : Option Addr) (aj : Nat) (bd : Nat) (R : Value → World → Prop) (w : World) : Prop :=
 Calls Try.prog 73 #[.slice aw aj bd] w fun bf b8 => ∃ (a8 : Bool), bf = .returned (.bool a8) ∧
 bif !a8 then (
 R (.tuple #[.slice none 0 0, .int .i64 1]) b8) else (
 Calls Try.prog 51 #[.int .u64 (IntKind.u64.wrap (aj : Int))] b8 fun ba b9 => ∃ (ag : Option Addr) (ac : Nat) (ad : Nat), ba = .returned (.slice ag ac ad) ∧
 ∃ (I0 : Nat → List Value → World → Prop) (bg : Nat), I0 bg [.slice ag ac ad, .int .i64 0] b9 ∧ ∀ (b6 : Nat) (ab : World) (ay : Option Addr) (b5 : Nat) (b1 : Nat) (i9 : Int), I0 b6 [.slice ay b5 b1, .int .i64 i9] ab →
 bif decide (i9 < (aj : Int)) then (
 aw.elim False fun bc =>
 0 ≤ (i9 : Int) ∧ (i9 : Int) < (aj : Int) ∧
 ∃ (a0 : Int), ab.cell? ((bc.add (Int.toNat i9 * 3)).add 0) = some (.int .i64 a0) ∧
 Calls Try.prog 51 #[.int .u64 (IntKind.u64.wrap a0)] ab fun b2 az => ∃ (a9 : Option Addr) (a5 : Nat) (a1 : Nat), b2 = .returned (.slice a9 a5 a1) ∧
 ∃ (ao : Option Addr) (aq : Nat) (an : Nat) (ah : World), (Builtin.append_ #[23, 23] 23 #[.slice ay b5 b1, .slice a9 a5 a1]).run Try.prog az = .ok (.slice ao aq an) ah ∧
 aw.elim False fun be =>
 0 ≤ (i9 : Int) ∧ (i9 : Int) < (aj : Int) ∧
 ∃ (ae : Int), ah.cell? ((be.add (Int.toNat i9 * 3)).add 1) = some (.int .i64 ae) ∧
 Calls Try.prog 51 #[.int .u64 (IntKind.u64.wrap ae)] ah fun ax b0 => ∃ (a4 : Option Addr) (a7 : Nat) (a3 : Nat), ax = .returned (.slice a4 a7 a3) ∧
 ∃ (av : Option Addr) (al : Nat) (ap : Nat) (ai : World), (Builtin.append_ #[23, 23] 23 #[.slice ao aq an, .slice a4 a7 a3]).run Try.prog b0 = .ok (.slice av al ap) ai ∧
 aw.elim False fun bb =>
 0 ≤ (i9 : Int) ∧ (i9 : Int) < (aj : Int) ∧
 ∃ (af : Int), ai.cell? ((bb.add (Int.toNat i9 * 3)).add 2) = some (.int .u64 af) ∧
 Calls Try.prog 51 #[.int .u64 af] ai fun b3 b4 => ∃ (a6 : Option Addr) (aa : Nat) (a2 : Nat), b3 = .returned (.slice a6 aa a2) ∧
 ∃ (am : Option Addr) (ar : Nat) (au : Nat) (ak : World), (Builtin.append_ #[23, 23] 23 #[.slice av al ap, .slice a6 aa a2]).run Try.prog b4 = .ok (.slice am ar au) ak ∧
 ∃ b7, b7 < b6 ∧ I0 b7 [.slice am ar au, .int .i64 (IntKind.i64.wrap (i9 + 1))] ak) else (
 R (.tuple #[.slice ay b5 b1, .int .i64 0]) ab))

theorem rBytes5.eq (v1a : Option Addr) (v1n : Nat) (v1c : Nat) (R : Value → World → Prop) (w : World) : mfunc Try.prog [(0, [0], [(4, (.one .slice)), (5, (.one (.int .i64)))])] 50 [.slice v1a v1n v1c] R w = rBytes5.M v1a v1n v1c R w := by kernel_rfl
theorem rBytes5.ok (a2 : Option Addr) (a0 : Nat) (a1 : Nat) {R : Value → World → Prop} {w : World} (h : rBytes5.M a2 a0 a1 R w) : Calls Try.prog 50 #[.slice a2 a0 a1] w fun e w' => ∃ v, e = .returned v ∧ R v w' :=
  mfunc_ok follows (H := [(0, [0], [(4, (.one .slice)), (5, (.one (.int .i64)))])]) (args := [.slice a2 a0 a1]) (by rw [rBytes5.eq]; exact h)

/-- cachetteref05.Right -/
def rRight5.M (ab : Option Addr) (a8 : Nat) (ah : Nat) (R : Value → World → Prop) (w : World) : Prop :=
 ∃ (I0 : Nat → List Value → World → Prop) (m3 : Nat), I0 m3 [.int .i64 0] w ∧ ∀ (m4 : Nat) (aa : World) (i2 : Int), I0 m4 [.int .i64 i2] aa →
 bif decide (i2 < (a8 : Int)) then (
 thenW (aa.drew) fun ac =>
 ab.elim False fun a7 =>
 0 ≤ (i2 : Int) ∧ (i2 : Int) < (a8 : Int) ∧
 ∃ (a2 : Int) (a6 : Int) (a5 : Int), cellsAt ac (a7.add (Int.toNat i2 * 3)) [.int .i64 a2, .int .i64 a6, .int .u64 a5] 0 ∧
 Calls Try.prog 84 #[.agg #[.int .i64 a2, .int .i64 a6, .int .u64 a5]] ac fun a9 a4 => ∃ (a0 : Bool), a9 = .returned (.bool a0) ∧
 bif !a0 then (
 R (.bool false) a4) else (
 bif decide (i2 > 0) then (
 ab.elim False fun ag =>
 0 ≤ ((IntKind.i64.wrap (i2 - 1)) : Int) ∧ ((IntKind.i64.wrap (i2 - 1)) : Int) < (a8 : Int) ∧
 ∃ (a3 : Int), a4.cell? ((ag.add (Int.toNat (IntKind.i64.wrap (i2 - 1)) * 3)).add 0) = some (.int .i64 a3) ∧
 ab.elim False fun af =>
 0 ≤ (i2 : Int) ∧ (i2 : Int) < (a8 : Int) ∧
 ∃ (a1 : Int), a4.cell? ((af.add (Int.toNat i2 * 3)).add 0) = some (.int .i64 a1) ∧
 bif decide (a3 ≥ a1) then (
 R (.bool false) a4) else (
 ∃ ad, ad < m4 ∧ I0 ad [.int .i64 (IntKind.i64.wrap (i2 + 1))] a4)) else (
 ∃ ae, ae < m4 ∧ I0 ae [.int .i64 (IntKind.i64.wrap (i2 + 1))] a4))) else (
 R (.bool true) aa)

theorem rRight5.eq (v1a : Option Addr) (v1n : Nat) (v1c : Nat) (R : Value → World → Prop) (w : World) : mfunc Try.prog [(0, [0], [(3, (.one (.int .i64)))])] 73 [.slice v1a v1n v1c] R w = rRight5.M v1a v1n v1c R w := by kernel_rfl
theorem rRight5.ok (a2 : Option Addr) (a0 : Nat) (a1 : Nat) {R : Value → World → Prop} {w : World} (h : rRight5.M a2 a0 a1 R w) : Calls Try.prog 73 #[.slice a2 a0 a1] w fun e w' => ∃ v, e = .returned v ∧ R v w' :=
  mfunc_ok follows (H := [(0, [0], [(3, (.one (.int .i64)))])]) (args := [.slice a2 a0 a1]) (by rw [rRight5.eq]; exact h)

/-- cachetteref05.RightHead -/
def rRH5.M (a2 : Int) (a5 : Int) (a8 : Int) (R : Value → World → Prop) (w : World) : Prop :=
 thenW (w.alloc (.cells #[.int .i64 a2, .int .i64 a5, .int .u64 a8] 114)) fun a3 =>
 ∃ (a0 : Int), a3.cell? ((blk w.heap.size).add 0) = some (.int .i64 a0) ∧
 bif decide (a0 ≥ 0) then (
 ∃ (a1 : Int), a3.cell? ((blk w.heap.size).add 0) = some (.int .i64 a1) ∧
 bif decide (a1 < 8) then (
 ∃ (a4 : Int), a3.cell? ((blk w.heap.size).add 1) = some (.int .i64 a4) ∧
 bif decide (a4 ≥ 1) then (
 ∃ (a7 : Int), a3.cell? ((blk w.heap.size).add 1) = some (.int .i64 a7) ∧
 bif decide (a7 ≤ 200) then (
 ∃ (a6 : Int), a3.cell? ((blk w.heap.size).add 2) = some (.int .u64 a6) ∧
 R (.bool (a6 != 0)) a3) else (
 R (.bool false) a3)) else (
 R (.bool false) a3)) else (
 R (.bool false) a3)) else (
 R (.bool false) a3)

theorem rRH5.eq (hWriter1 : Int) (hLen2 : Int) (hSum3 : Int) (R : Value → World → Prop) (w : World) : mfunc Try.prog [] 84 [.agg #[.int .i64 hWriter1, .int .i64 hLen2, .int .u64 hSum3]] R w = rRH5.M hWriter1 hLen2 hSum3 R w := by kernel_rfl
theorem rRH5.ok (a0 : Int) (a1 : Int) (a2 : Int) {R : Value → World → Prop} {w : World} (h : rRH5.M a0 a1 a2 R w) : Calls Try.prog 84 #[.agg #[.int .i64 a0, .int .i64 a1, .int .u64 a2]] w fun e w' => ∃ v, e = .returned v ∧ R v w' :=
  mfunc_ok follows (H := []) (args := [.agg #[.int .i64 a0, .int .i64 a1, .int .u64 a2]]) (by rw [rRH5.eq]; exact h)

/-- cachetteref01.Num -/
def rNum.M (n1 : Int) (R : Value → World → Prop) (w : World) : Prop :=
 bif decide (n1 < 128) then (
 thenW (w.alloc (.cells #[.int .u8 (IntKind.u8.wrap n1)] 5)) fun aa =>
 R (.slice (some (blk w.heap.size)) 1 1) aa) else (
 128 ≠ (0 : Int) ∧ thenW (w.alloc (.cells #[.int .u8 (IntKind.u8.wrap ((IntKind.u8.wrap (Int.tmod n1 128)) + 128))] 5)) fun a8 =>
 128 ≠ (0 : Int) ∧ Calls Try.prog 51 #[.int .u64 (IntKind.u64.wrap (Int.tdiv n1 128))] a8 fun a7 a9 => ∃ (a0 : Option Addr) (a2 : Nat) (a1 : Nat), a7 = .returned (.slice a0 a2 a1) ∧
 ∃ (a4 : Option Addr) (a6 : Nat) (a5 : Nat) (a3 : World), (Builtin.append_ #[23, 23] 23 #[.slice (some (blk w.heap.size)) 1 1, .slice a0 a2 a1]).run Try.prog a9 = .ok (.slice a4 a6 a5) a3 ∧
 R (.slice a4 a6 a5) a3)

theorem rNum.eq (n1 : Int) (R : Value → World → Prop) (w : World) : mfunc Try.prog [] 51 [.int .u64 n1] R w = rNum.M n1 R w := by kernel_rfl
theorem rNum.ok (n1 : Int) {R : Value → World → Prop} {w : World} (h : rNum.M n1 R w) : Calls Try.prog 51 #[.int .u64 n1] w fun e w' => ∃ v, e = .returned v ∧ R v w' :=
  mfunc_ok follows (H := []) (args := [.int .u64 n1]) (by rw [rNum.eq]; exact h)

theorem numF_more : ∀ (k m : Nat), m < 128 ^ k → 0 < k → numF (k + 1) m = numF k m
  | k + 1, m, h, _ => by
    by_cases h1 : m < 128
    · rw [numF, if_pos h1, numF, if_pos h1]
    · rw [numF, if_neg h1]
      conv => rhs; rw [numF, if_neg h1]
      have hk : 0 < k := Nat.pos_of_ne_zero fun e => by subst e; simp at h; omega
      rw [numF_more k (m / 128) (by rw [Nat.pow_succ] at h; omega) hk]
theorem numL_step {n : Nat} (h : n < 18446744073709551616) (h1 : ¬ n < 128) : numL n = UInt8.ofNat (n % 128 + 128) :: numL (n / 128) := by
  unfold numL
  rw [numF, if_neg h1, numF_more 9 (n / 128) (by omega) (by decide)]
section
variable {w w' : World} {a : Option Addr} {c : Nat} {hs : List Hd}
theorem rRH_spec (h : Hd) : Calls Try.prog 84 #[hdV h] w (GivesV (.bool (rhead h)) fun w' => Ext no w w') := by
  refine (rRH5.ok _ _ _ (R := fun v w' => v = .bool (rhead h) ∧ Ext no w w') ?_).mono fun e w' ⟨v, he, hv, hw⟩ => ⟨by rw [he, hv], hw⟩
  unfold rRH5.M
  refine thenW_in fun w4 h4 => ?_
  have hb : Blk w4 w.heap.size 114 (hdC h) := by subst h4; exact Blk.new _ _ _
  have hx : Ext no w w4 := by subst h4; exact (Ext.refl _ _).alloc _
  refine ⟨_, hb.cella (i := 0) rfl, ?_⟩
  unfold rhead
  by_cases c1 : h.1 ≥ 0
  · rw [decide_eq_true c1, cond_true, Bool.true_and]
    refine ⟨_, hb.cella (i := 0) rfl, ?_⟩
    by_cases c2 : h.1 < 8
    · rw [decide_eq_true c2, cond_true, Bool.true_and]
      refine ⟨_, hb.cella (i := 1) rfl, ?_⟩
      by_cases c3 : h.2.1 > 0
      · rw [decide_eq_true c3, decide_eq_true (by omega : h.2.1 ≥ 1), cond_true, Bool.true_and]
        refine ⟨_, hb.cella (i := 1) rfl, ?_⟩
        by_cases c4 : h.2.1 ≤ 200
        · rw [decide_eq_true c4, cond_true, Bool.true_and]
          exact ⟨_, hb.cella (i := 2) rfl, rfl, hx⟩
        · rw [decide_eq_false c4]; exact ⟨rfl, hx⟩
      · rw [decide_eq_false c3, decide_eq_false (by omega : ¬ h.2.1 ≥ 1)]; exact ⟨rfl, hx⟩
    · rw [decide_eq_false c2]; exact ⟨rfl, hx⟩
  · rw [decide_eq_false c1]; exact ⟨rfl, hx⟩
theorem rRight_spec (hr : RowAt w a (hsC hs)) (hl : hs.length < 1000000) : Calls Try.prog 73 #[.slice a hs.length c] w (GivesV (.bool (rightV hs)) fun w' => Ext no w w') := by
  refine (rRight5.ok _ _ _ (R := fun v w' => v = .bool (rightV hs) ∧ Ext no w w') ?_).mono fun e w' ⟨v, he, hv, hw⟩ => ⟨by rw [he, hv], hw⟩
  unfold rRight5.M
  refine ⟨fun k vs w1 => ∃ t : Nat, vs = [.int .i64 t] ∧ k + t = hs.length ∧ rightF (prevOf hs t) (hs.drop t) = rightV hs ∧ Ext no w w1, hs.length, ⟨0, rfl, rfl, rfl, Ext.refl _ _⟩, ?_⟩
  rintro k w1 i ⟨t, hi, hk, hf, hx⟩
  simp only [List.cons.injEq, Value.int.injEq, true_and, and_true] at hi
  subst hi
  cases k with
  | zero =>
    obtain rfl : t = hs.length := by omega
    rw [show decide ((hs.length : Int) < (hs.length : Int)) = false by simp, cond_false]
    rw [List.drop_length] at hf
    exact ⟨by rw [← hf]; cases prevOf hs hs.length <;> rfl, hx⟩
  | succ k =>
    have ht : t < hs.length := by omega
    rw [show decide ((t : Int) < (hs.length : Int)) = true by simp; omega, cond_true]
    refine thenW_in fun w6 h6 => ?_
    have x6 : Ext no w w6 := hx.trans (by subst h6; exact (Ext.refl _ _).drew)
    have hr1 := hr.no x6
    obtain ⟨ad, rfl⟩ := hr1.addr (hsC_ne (by intro e; subst e; simp at ht))
    have hgi : hs[t]? = some hs[t] := List.getElem?_eq_getElem ht
    refine ⟨by omega, by omega, _, _, _, by rw [Int.toNat_natCast]; exact hs_at hr1 hgi, ?_⟩
    refine (rRH_spec hs[t]).mono fun e w20 ⟨he, x20'⟩ => ⟨_, he, ?_⟩
    have x20 := x6.trans x20'
    have hd : hs.drop t = hs[t] :: hs.drop (t + 1) := List.drop_eq_getElem_cons ht
    rw [hd] at hf
    simp only [rightF] at hf
    by_cases c1 : rhead hs[t] = true
    · rw [c1, Bool.not_true, cond_false]
      rw [c1, Bool.true_and] at hf
      have hw1 : IntKind.i64.wrap ((t : Int) + 1) = ((t + 1 : Nat) : Int) := by rw [w64 (by omega) (by omega)]; rfl
      cases t with
      | zero =>
        rw [show decide (((0 : Nat) : Int) > 0) = false from rfl, cond_false]
        exact ⟨k, by omega, 1, by rw [hw1], by omega, by rw [← hf]; simp [prevOf, ht], x20⟩
      | succ t =>
        rw [show decide (((t + 1 : Nat) : Int) > 0) = true by simp <;> omega, cond_true]
        have htl : t < hs.length := by omega
        have hgp : hs[t]? = some hs[t] := List.getElem?_eq_getElem htl
        have hw2 : IntKind.i64.wrap (((t + 1 : Nat) : Int) - 1) = (t : Int) := by rw [w64 (by omega) (by omega)] <;> omega
        rw [hw2]
        refine ⟨by omega, by omega, _, by rw [Int.toNat_natCast]; exact hs_cell (hr.no x20) hgp (j := 0) rfl, by omega, by omega, _, by rw [Int.toNat_natCast]; exact hs_cell (hr.no x20) hgi (j := 0) rfl, ?_⟩
        simp only [prevOf, hgp, Option.map_some] at hf
        by_cases c2 : hs[t].1 ≥ hs[t + 1].1
        · rw [decide_eq_true c2, cond_true]
          rw [decide_eq_false (by omega), Bool.false_and] at hf
          exact ⟨by rw [← hf], x20⟩
        · rw [decide_eq_false c2, cond_false]
          rw [decide_eq_true (by omega), Bool.true_and] at hf
          exact ⟨k, by omega, t + 2, by rw [hw1], by omega, by rw [← hf]; simp [prevOf, ht], x20⟩
    · have c1' : rhead hs[t] = false := by simpa using c1
      rw [c1', Bool.not_false, cond_true]
      rw [c1', Bool.false_and, Bool.false_and] at hf
      exact ⟨by rw [← hf], x20⟩
theorem rNum_spec : ∀ (n : Nat) (w : World), n < 18446744073709551616 → Calls Try.prog 51 #[.int .u64 n] w (fun e w' => ∃ a' c', e = .returned (.slice a' (numL n).length c') ∧ OwnB w.heap.size w' a' c' (numL n) ∧ Ext no w w') := by
  intro n
  induction n using Nat.strongRecOn with
  | _ n ih =>
    intro w hn
    refine (rNum.ok _ (R := fun v w' => ∃ a' c', v = (.slice a' (numL n).length c') ∧ OwnB w.heap.size w' a' c' (numL n) ∧ Ext no w w') ?_).mono fun e w' ⟨v, he, a', c', hv, hw⟩ => ⟨a', c', by rw [he, hv], hw⟩
    unfold rNum.M
    have one : ∀ (w2 : World) (x : UInt8), w2 = w.alloc (.cells #[.int .u8 (x.toNat : Int)] 5) → OwnB w.heap.size w2 (some (blk w.heap.size)) 1 [x] ∧ Ext no w w2 := fun w2 x h2 => by
      have hb : Blk w2 w.heap.size 5 (bytesV [x]) := by subst h2; exact Blk.new _ _ _
      exact ⟨⟨owns_of_blk hb rfl (by simp [maxLen]), fun ad ha => by cases ha; exact ⟨Nat.le_refl _, hb.lt⟩⟩, by subst h2; exact (Ext.refl _ _).alloc _⟩
    by_cases h1 : n < 128
    · rw [show decide ((n : Int) < 128) = true by simp; omega, cond_true]
      have hv : IntKind.u8.wrap (n : Int) = ((UInt8.ofNat n).toNat : Int) := by rw [wu8 (by omega) (by omega), ofNat_lt (by omega)]
      have hL : numL n = [UInt8.ofNat n] := by unfold numL; rw [numF, if_pos h1]
      rw [hv, hL]
      refine thenW_in fun w2 h2 => ?_
      obtain ⟨q1, q2⟩ := one w2 _ h2
      exact ⟨_, 1, rfl, q1, q2⟩
    · rw [show decide ((n : Int) < 128) = false by simp; omega, cond_false]
      have hm : Int.tmod (n : Int) 128 = ((n % 128 : Nat) : Int) := by rw [Int.tmod_eq_emod_of_nonneg (by omega)]; omega
      have hd : Int.tdiv (n : Int) 128 = ((n / 128 : Nat) : Int) := by rw [Int.tdiv_eq_ediv_of_nonneg (by omega)]; omega
      have hv : IntKind.u8.wrap ((IntKind.u8.wrap (Int.tmod (n : Int) 128)) + 128) = ((UInt8.ofNat (n % 128 + 128)).toNat : Int) := by
        rw [hm, wu8 (n := ((n % 128 : Nat) : Int)) (by omega) (by omega), wu8 (by omega) (by omega), ofNat_lt (by omega)]; omega
      rw [hv, hd, wu64 (by omega) (by omega), numL_step hn h1]
      refine ⟨by decide, thenW_in fun w3 h3 => ⟨by decide, ?_⟩⟩
      obtain ⟨q1, q2⟩ := one w3 _ h3
      refine (ih (n / 128) (by omega) w3 (by omega)).mono fun e w6 ⟨a6, c6, he, ho6, x6⟩ => ⟨a6, _, c6, he, ?_⟩
      obtain ⟨a', c', w8, hr, ho8, x8⟩ := (W.OwnB.no q1 x6).append (t := 23) (ty := 23) Try.underlying23 (Nat.le_trans q2.size x6.size) (xc := c6) (W.OwnB.row ho6) (by have := numL_le (n / 128); simp; omega)
      exact ⟨a', _, c', w8, hr, a', c', rfl, ho8, (q2.trans x6).then x8 fun b hb => .inr hb⟩

theorem rBytes5_spec (hr : RowAt w a (hsC hs)) (hl : hs.length ≤ 1000) (hn : rightV hs = true → ∀ h ∈ hs, natH h) :
    Calls Try.prog 50 #[.slice a hs.length c] w (fun e w' => Ext no w w' ∧ ((rightV hs = false ∧ e = .returned (.tuple #[.slice none 0 0, .int .i64 1])) ∨ (rightV hs = true ∧ ∃ a' c', e = .returned (.tuple #[.slice a' (vecL hs).length c', .int .i64 0]) ∧ OwnB w.heap.size w' a' c' (vecL hs)))) := by
  refine (rBytes5.ok _ _ _ (R := fun v w' => Ext no w w' ∧ ((rightV hs = false ∧ v = .tuple #[.slice none 0 0, .int .i64 1]) ∨ (rightV hs = true ∧ ∃ a' c', v = .tuple #[.slice a' (vecL hs).length c', .int .i64 0] ∧ OwnB w.heap.size w' a' c' (vecL hs)))) ?_).mono fun e w' ⟨v, he, hx, hv⟩ => ⟨hx, hv.imp (fun ⟨h1, h2⟩ => ⟨h1, by rw [he, h2]⟩) (fun ⟨h1, a', c', h2, h3⟩ => ⟨h1, a', c', by rw [he, h2], h3⟩)⟩
  unfold rBytes5.M
  refine (rRight_spec hr (by omega)).mono fun e w4 ⟨he, x4⟩ => ⟨_, he, ?_⟩
  by_cases hright : rightV hs = true
  · rw [hright, Bool.not_true, cond_false]
    have hnat := hn hright
    rw [wu64 (n := (hs.length : Int)) (by omega) (by omega)]
    refine (rNum_spec hs.length w4 (by omega)).mono fun e w7 ⟨a7, c7, he, ho7, x7'⟩ => ⟨a7, _, c7, he, ?_⟩
    have x7 := x4.trans x7'
    refine ⟨fun k vs w1 => ∃ (t : Nat) (a1 : Option Addr) (c1 : Nat), vs = [.slice a1 (numL hs.length ++ (hs.take t).flatMap hdL).length c1, .int .i64 t] ∧ k + t = hs.length ∧ OwnB w.heap.size w1 a1 c1 (numL hs.length ++ (hs.take t).flatMap hdL) ∧ Ext no w w1, hs.length,
      ⟨0, a7, c7, by simp, rfl, by simpa using OwnB.mono ho7 x4.size, x7⟩, ?_⟩
    rintro k w12 b0 n0 c0 i ⟨t, a1, c1, hvs, hk, ho, hx⟩
    simp only [List.cons.injEq, Value.int.injEq, Value.slice.injEq, true_and, and_true] at hvs
    obtain ⟨⟨rfl, rfl, rfl⟩, rfl⟩ := hvs
    cases k with
    | zero =>
      obtain rfl : t = hs.length := by omega
      rw [show decide ((hs.length : Int) < (hs.length : Int)) = false by simp, cond_false]
      rw [List.take_length] at ho ⊢
      exact ⟨hx, .inr ⟨rfl, _, _, rfl, ho⟩⟩
    | succ k =>
      have ht : t < hs.length := by omega
      rw [show decide ((t : Int) < (hs.length : Int)) = true by simp; omega, cond_true]
      have hr1 := hr.no hx
      obtain ⟨ad, rfl⟩ := hr1.addr (hsC_ne (by intro e; subst e; simp at ht))
      have hgi : hs[t]? = some hs[t] := List.getElem?_eq_getElem ht
      obtain ⟨m1, m2, m3, m4, m5, m6⟩ := hnat hs[t] (List.getElem_mem ht)
      have hlen : (numL hs.length ++ (hs.take t).flatMap hdL).length ≤ 10 + 30 * 1000 := by
        have h1 := numL_le hs.length
        have h2 := hdsL_le (hs.take t)
        rw [List.length_take] at h2
        rw [List.length_append]; omega
      have n1 := numL_le hs[t].1.toNat; have n2 := numL_le hs[t].2.1.toNat; have n3 := numL_le hs[t].2.2.toNat
      -- one number more
      have step : ∀ (w1 : World) (n : Nat) (l : List UInt8) (b1 : Option Addr) (c1 : Nat), n < 18446744073709551616 → l.length ≤ 40000 → OwnB w.heap.size w1 b1 c1 l → Ext no w w1 → ∀ (x : Int), x = (n : Int) → ∀ (K : Option Addr → Nat → Nat → World → Prop),
          (∀ a2 c2 w2, OwnB w.heap.size w2 a2 c2 (l ++ numL n) → Ext no w w2 → K a2 (l ++ numL n).length c2 w2) →
          Calls Try.prog 51 #[.int .u64 x] w1 fun ee ww => ∃ (na : Option Addr) (nn : Nat) (nc : Nat), ee = .returned (.slice na nn nc) ∧ ∃ (ra : Option Addr) (rn : Nat) (rc : Nat) (w3 : World), (Builtin.append_ #[23, 23] 23 #[.slice b1 l.length c1, .slice na nn nc]).run Try.prog ww = .ok (.slice ra rn rc) w3 ∧ K ra rn rc w3 := fun w1 n l b1 c1 hn64 hll ho1 hx1 x hxn K hK => by
        subst hxn
        refine (rNum_spec n w1 hn64).mono fun e w2 ⟨a2, c2, he, ho2, x2⟩ => ⟨a2, _, c2, he, ?_⟩
        have := numL_le n
        obtain ⟨a', c', w3, hr3, ho3, x3⟩ := (W.OwnB.no ho1 x2).append (t := 23) (ty := 23) Try.underlying23 (Nat.le_trans hx1.size x2.size) (xc := c2) (W.OwnB.row ho2) (by omega)
        exact ⟨a', _, c', w3, hr3, hK a' c' w3 ho3 ((hx1.trans x2).then x3 fun b hb => .inr hb)⟩
      refine ⟨by omega, by omega, _, by rw [Int.toNat_natCast]; exact hs_cell hr1 hgi (j := 0) rfl, ?_⟩
      rw [wu64 m1 m2]
      generalize hbase : numL hs.length ++ (hs.take t).flatMap hdL = base at *
      refine step w12 hs[t].1.toNat base b0 c0 (by omega) (by omega) ho hx hs[t].1 (by omega) _ fun a2 c2 w2 ho2 x2 => ?_
      refine ⟨by omega, by omega, _, by rw [Int.toNat_natCast]; exact hs_cell (hr.no x2) hgi (j := 1) rfl, ?_⟩
      rw [wu64 m3 m4]
      refine step w2 hs[t].2.1.toNat _ a2 c2 (by omega) (by rw [List.length_append]; omega) ho2 x2 hs[t].2.1 (by omega) _ fun a3 c3 w3 ho3 x3 => ?_
      refine ⟨by omega, by omega, _, by rw [Int.toNat_natCast]; exact hs_cell (hr.no x3) hgi (j := 2) rfl, ?_⟩
      refine step w3 hs[t].2.2.toNat _ a3 c3 (by omega) (by rw [List.length_append, List.length_append]; omega) ho3 x3 hs[t].2.2 (by omega) _ fun a4 c4 w4' ho4 x4' => ?_
      have hnx : base ++ numL hs[t].1.toNat ++ numL hs[t].2.1.toNat ++ numL hs[t].2.2.toNat = numL hs.length ++ (hs.take (t + 1)).flatMap hdL := by
        rw [← hbase, List.take_add_one (l := hs) (i := t), hgi, Option.toList_some, List.flatMap_append]
        show _ = numL hs.length ++ ((hs.take t).flatMap hdL ++ (hdL hs[t] ++ []))
        simp only [hdL, List.append_nil, List.append_assoc]
      rw [hnx] at ho4 ⊢
      exact ⟨k, by omega, t + 1, _, _, by rw [w64 (by omega) (by omega)]; rfl, by omega, ho4, x4'⟩
  · rw [show rightV hs = false by simpa using hright, Bool.not_false, cond_true]
    exact ⟨x4, .inl ⟨rfl, rfl⟩⟩
end
end Go.Proofs.Ytfmdpjhkojbocaa
