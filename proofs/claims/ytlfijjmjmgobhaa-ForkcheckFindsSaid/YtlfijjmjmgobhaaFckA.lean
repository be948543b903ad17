/- Forkcheck: what proves. -/
import Derived.Test.YtlfijjmjmgobhaaRefE
import Derived.Test.YtlfijjmjmgobhaaEntC
set_option linter.unusedVariables false
set_option linter.unusedSimpArgs false
set_option maxRecDepth 20000
set_option maxHeartbeats 2000000
namespace Go.Proofs.Ytlfijjmjmgobhaa
open Go Go.Mx Go.Proofs
open W (OwnB GivesW numR countR doneR zig unzig intR)
/-- (forkcheck.Proof).right -/
def forkcheck_Proof_right.M (pAWriter1 : Int) (pAIndex2 : Int) (pAPrev3 : Int) (pAAtT4 : Int) (pAAtW5 : Int) (pAEpoch6 : Int) (pABody7a : Option Addr) (pABody7n : Nat) (pABody7c : Nat) (pASig8 : Int) (pBWriter9 : Int) (pBIndex10 : Int) (pBPrev11 : Int) (pBAtT12 : Int) (pBAtW13 : Int) (pBEpoch14 : Int) (pBBody15a : Option Addr) (pBBody15n : Nat) (pBBody15c : Nat) (pBSig16 : Int) (R : Value → World → Prop) (w : World) : Prop :=
  thenW (w.alloc (.cells #[.int .i64 pAWriter1, .int .i64 pAIndex2, .int .u64 pAPrev3, .int .i64 pAAtT4, .int .i64 pAAtW5, .int .i64 pAEpoch6, .slice pABody7a pABody7n pABody7c, .int .u64 pASig8, .int .i64 pBWriter9, .int .i64 pBIndex10, .int .u64 pBPrev11, .int .i64 pBAtT12, .int .i64 pBAtW13, .int .i64 pBEpoch14, .slice pBBody15a pBBody15n pBBody15c, .int .u64 pBSig16] 48)) fun ww17 =>
  ∃ (AWriter18 : Int) (AIndex19 : Int) (APrev20 : Int) (AAtT21 : Int) (AAtW22 : Int) (AEpoch23 : Int) (ABody24a : Option Addr) (ABody24n : Nat) (ABody24c : Nat) (ASig25 : Int), cellsAt ww17 ((blk w.heap.size).add 0) [.int .i64 AWriter18, .int .i64 AIndex19, .int .u64 APrev20, .int .i64 AAtT21, .int .i64 AAtW22, .int .i64 AEpoch23, .slice ABody24a ABody24n ABody24c, .int .u64 ASig25] 0 ∧
  Calls Try.prog 71 #[.agg #[.int .i64 AWriter18, .int .i64 AIndex19, .int .u64 APrev20, .int .i64 AAtT21, .int .i64 AAtW22, .int .i64 AEpoch23, .slice ABody24a ABody24n ABody24c, .int .u64 ASig25]] ww17 fun ee27 ww28 => ∃ (right26 : Bool), ee27 = .returned (.bool right26) ∧
  bif right26 then (
  ∃ (BWriter29 : Int) (BIndex30 : Int) (BPrev31 : Int) (BAtT32 : Int) (BAtW33 : Int) (BEpoch34 : Int) (BBody35a : Option Addr) (BBody35n : Nat) (BBody35c : Nat) (BSig36 : Int), cellsAt ww28 ((blk w.heap.size).add 8) [.int .i64 BWriter29, .int .i64 BIndex30, .int .u64 BPrev31, .int .i64 BAtT32, .int .i64 BAtW33, .int .i64 BEpoch34, .slice BBody35a BBody35n BBody35c, .int .u64 BSig36] 0 ∧
  Calls Try.prog 71 #[.agg #[.int .i64 BWriter29, .int .i64 BIndex30, .int .u64 BPrev31, .int .i64 BAtT32, .int .i64 BAtW33, .int .i64 BEpoch34, .slice BBody35a BBody35n BBody35c, .int .u64 BSig36]] ww28 fun ee38 ww39 => ∃ (right37 : Bool), ee38 = .returned (.bool right37) ∧
  bif right37 then (
  R (.int .i64 0) ww39) else (
  R (.int .i64 1) ww39)) else (
  R (.int .i64 1) ww28)

theorem forkcheck_Proof_right.eq (pAWriter1 : Int) (pAIndex2 : Int) (pAPrev3 : Int) (pAAtT4 : Int) (pAAtW5 : Int) (pAEpoch6 : Int) (pABody7a : Option Addr) (pABody7n : Nat) (pABody7c : Nat) (pASig8 : Int) (pBWriter9 : Int) (pBIndex10 : Int) (pBPrev11 : Int) (pBAtT12 : Int) (pBAtW13 : Int) (pBEpoch14 : Int) (pBBody15a : Option Addr) (pBBody15n : Nat) (pBBody15c : Nat) (pBSig16 : Int) (R : Value → World → Prop) (w : World) : mfunc Try.prog [] 52 [.agg #[.int .i64 pAWriter1, .int .i64 pAIndex2, .int .u64 pAPrev3, .int .i64 pAAtT4, .int .i64 pAAtW5, .int .i64 pAEpoch6, .slice pABody7a pABody7n pABody7c, .int .u64 pASig8, .int .i64 pBWriter9, .int .i64 pBIndex10, .int .u64 pBPrev11, .int .i64 pBAtT12, .int .i64 pBAtW13, .int .i64 pBEpoch14, .slice pBBody15a pBBody15n pBBody15c, .int .u64 pBSig16]] R w = forkcheck_Proof_right.M pAWriter1 pAIndex2 pAPrev3 pAAtT4 pAAtW5 pAEpoch6 pABody7a pABody7n pABody7c pASig8 pBWriter9 pBIndex10 pBPrev11 pBAtT12 pBAtW13 pBEpoch14 pBBody15a pBBody15n pBBody15c pBSig16 R w := by kernel_rfl
theorem forkcheck_Proof_right.ok (pAWriter1 : Int) (pAIndex2 : Int) (pAPrev3 : Int) (pAAtT4 : Int) (pAAtW5 : Int) (pAEpoch6 : Int) (pABody7a : Option Addr) (pABody7n : Nat) (pABody7c : Nat) (pASig8 : Int) (pBWriter9 : Int) (pBIndex10 : Int) (pBPrev11 : Int) (pBAtT12 : Int) (pBAtW13 : Int) (pBEpoch14 : Int) (pBBody15a : Option Addr) (pBBody15n : Nat) (pBBody15c : Nat) (pBSig16 : Int) {R : Value → World → Prop} {w : World} (h : forkcheck_Proof_right.M pAWriter1 pAIndex2 pAPrev3 pAAtT4 pAAtW5 pAEpoch6 pABody7a pABody7n pABody7c pASig8 pBWriter9 pBIndex10 pBPrev11 pBAtT12 pBAtW13 pBEpoch14 pBBody15a pBBody15n pBBody15c pBSig16 R w) : Calls Try.prog 52 #[.agg #[.int .i64 pAWriter1, .int .i64 pAIndex2, .int .u64 pAPrev3, .int .i64 pAAtT4, .int .i64 pAAtW5, .int .i64 pAEpoch6, .slice pABody7a pABody7n pABody7c, .int .u64 pASig8, .int .i64 pBWriter9, .int .i64 pBIndex10, .int .u64 pBPrev11, .int .i64 pBAtT12, .int .i64 pBAtW13, .int .i64 pBEpoch14, .slice pBBody15a pBBody15n pBBody15c, .int .u64 pBSig16]] w fun e w' => ∃ v, e = .returned v ∧ R v w' :=
  mfunc_ok follows (H := []) (args := [.agg #[.int .i64 pAWriter1, .int .i64 pAIndex2, .int .u64 pAPrev3, .int .i64 pAAtT4, .int .i64 pAAtW5, .int .i64 pAEpoch6, .slice pABody7a pABody7n pABody7c, .int .u64 pASig8, .int .i64 pBWriter9, .int .i64 pBIndex10, .int .u64 pBPrev11, .int .i64 pBAtT12, .int .i64 pBAtW13, .int .i64 pBEpoch14, .slice pBBody15a pBBody15n pBBody15c, .int .u64 pBSig16]]) (by rw [forkcheck_Proof_right.eq]; exact h)

def forkcheck_Proof_right.N (pAWriter1 : Int) (pAIndex2 : Int) (pAPrev3 : Int) (pAAtT4 : Int) (pAAtW5 : Int) (pAEpoch6 : Int) (pABody7a : Option Addr) (pABody7n : Nat) (pABody7c : Nat) (pASig8 : Int) (pBWriter9 : Int) (pBIndex10 : Int) (pBPrev11 : Int) (pBAtT12 : Int) (pBAtW13 : Int) (pBEpoch14 : Int) (pBBody15a : Option Addr) (pBBody15n : Nat) (pBBody15c : Nat) (pBSig16 : Int) (R : Value → World → Prop) (w : World) : Prop :=
  ((entry_Right.F pAWriter1 pAIndex2 pAPrev3 pAAtT4 pAAtW5 pAEpoch6 pABody7a pABody7n pABody7c pASig8) = true →
    ((entry_Right.F pBWriter9 pBIndex10 pBPrev11 pBAtT12 pBAtW13 pBEpoch14 pBBody15a pBBody15n pBBody15c pBSig16) = true →
      ∀ (ww20 : World), Ext no w ww20 →
      R (.int .i64 0) ww20) ∧
    ((entry_Right.F pBWriter9 pBIndex10 pBPrev11 pBAtT12 pBAtW13 pBEpoch14 pBBody15a pBBody15n pBBody15c pBSig16) = false →
      ∀ (ww20 : World), Ext no w ww20 →
      R (.int .i64 1) ww20)) ∧
  ((entry_Right.F pAWriter1 pAIndex2 pAPrev3 pAAtT4 pAAtW5 pAEpoch6 pABody7a pABody7n pABody7c pASig8) = false →
    ∀ (ww18 : World), Ext no w ww18 →
    R (.int .i64 1) ww18)

theorem forkcheck_Proof_right.up (pAWriter1 : Int) (pAIndex2 : Int) (pAPrev3 : Int) (pAAtT4 : Int) (pAAtW5 : Int) (pAEpoch6 : Int) (pABody7a : Option Addr) (pABody7n : Nat) (pABody7c : Nat) (pASig8 : Int) (pBWriter9 : Int) (pBIndex10 : Int) (pBPrev11 : Int) (pBAtT12 : Int) (pBAtW13 : Int) (pBEpoch14 : Int) (pBBody15a : Option Addr) (pBBody15n : Nat) (pBBody15c : Nat) (pBSig16 : Int) {R : Value → World → Prop} {w : World} (h : forkcheck_Proof_right.N pAWriter1 pAIndex2 pAPrev3 pAAtT4 pAAtW5 pAEpoch6 pABody7a pABody7n pABody7c pASig8 pBWriter9 pBIndex10 pBPrev11 pBAtT12 pBAtW13 pBEpoch14 pBBody15a pBBody15n pBBody15c pBSig16 R w) : forkcheck_Proof_right.M pAWriter1 pAIndex2 pAPrev3 pAAtT4 pAAtW5 pAEpoch6 pABody7a pABody7n pABody7c pASig8 pBWriter9 pBIndex10 pBPrev11 pBAtT12 pBAtW13 pBEpoch14 pBBody15a pBBody15n pBBody15c pBSig16 R w := by
  unfold forkcheck_Proof_right.M
  unfold forkcheck_Proof_right.N at h
  refine thenW_in fun ww17 e17 => ?_
  have hb1 := Blk.of_new e17
  have hg1 := ((Ext.refl no w)).size
  have hx17 := (Ext.refl no w).x_alloc e17
  refine ⟨pAWriter1, pAIndex2, pAPrev3, pAAtT4, pAAtW5, pAEpoch6, pABody7a, pABody7n, pABody7c, pASig8, ⟨hb1.celli 0 rfl rfl, hb1.celli 1 rfl rfl, hb1.celli 2 rfl rfl, hb1.celli 3 rfl rfl, hb1.celli 4 rfl rfl, hb1.celli 5 rfl rfl, hb1.celli 6 rfl rfl, hb1.celli 7 rfl rfl, trivial⟩, ?_⟩
  refine (entry_Right.pure pAWriter1 pAIndex2 pAPrev3 pAAtT4 pAAtW5 pAEpoch6 pABody7a pABody7n pABody7c pASig8).mono fun ee ww18 ⟨he, hxx⟩ => ⟨(entry_Right.F pAWriter1 pAIndex2 pAPrev3 pAAtT4 pAAtW5 pAEpoch6 pABody7a pABody7n pABody7c pASig8), he, ?_⟩
  have hx18 := hx17.trans hxx
  have hb1 := hb1.ext hxx id
  refine bif_of (fun c19 => ?_) (fun c19 => ?_)
  · have h := h.1 c19
    refine ⟨pBWriter9, pBIndex10, pBPrev11, pBAtT12, pBAtW13, pBEpoch14, pBBody15a, pBBody15n, pBBody15c, pBSig16, ⟨hb1.celli 8 rfl rfl, hb1.celli 9 rfl rfl, hb1.celli 10 rfl rfl, hb1.celli 11 rfl rfl, hb1.celli 12 rfl rfl, hb1.celli 13 rfl rfl, hb1.celli 14 rfl rfl, hb1.celli 15 rfl rfl, trivial⟩, ?_⟩
    refine (entry_Right.pure pBWriter9 pBIndex10 pBPrev11 pBAtT12 pBAtW13 pBEpoch14 pBBody15a pBBody15n pBBody15c pBSig16).mono fun ee ww20 ⟨he, hxx⟩ => ⟨(entry_Right.F pBWriter9 pBIndex10 pBPrev11 pBAtT12 pBAtW13 pBEpoch14 pBBody15a pBBody15n pBBody15c pBSig16), he, ?_⟩
    have hx20 := hx18.trans hxx
    refine bif_of (fun c21 => ?_) (fun c21 => ?_)
    · have h := h.1 c21
      have h := h ww20 hx20
      exact h
    · have h := h.2 c21
      have h := h ww20 hx20
      exact h
  · have h := h.2 c19
    have h := h ww18 hx18
    exact h

theorem forkcheck_Proof_right.go (pAWriter1 : Int) (pAIndex2 : Int) (pAPrev3 : Int) (pAAtT4 : Int) (pAAtW5 : Int) (pAEpoch6 : Int) (pABody7a : Option Addr) (pABody7n : Nat) (pABody7c : Nat) (pASig8 : Int) (pBWriter9 : Int) (pBIndex10 : Int) (pBPrev11 : Int) (pBAtT12 : Int) (pBAtW13 : Int) (pBEpoch14 : Int) (pBBody15a : Option Addr) (pBBody15n : Nat) (pBBody15c : Nat) (pBSig16 : Int) {R : Value → World → Prop} {w : World} (h : forkcheck_Proof_right.N pAWriter1 pAIndex2 pAPrev3 pAAtT4 pAAtW5 pAEpoch6 pABody7a pABody7n pABody7c pASig8 pBWriter9 pBIndex10 pBPrev11 pBAtT12 pBAtW13 pBEpoch14 pBBody15a pBBody15n pBBody15c pBSig16 R w) : Calls Try.prog 52 #[.agg #[.int .i64 pAWriter1, .int .i64 pAIndex2, .int .u64 pAPrev3, .int .i64 pAAtT4, .int .i64 pAAtW5, .int .i64 pAEpoch6, .slice pABody7a pABody7n pABody7c, .int .u64 pASig8, .int .i64 pBWriter9, .int .i64 pBIndex10, .int .u64 pBPrev11, .int .i64 pBAtT12, .int .i64 pBAtW13, .int .i64 pBEpoch14, .slice pBBody15a pBBody15n pBBody15c, .int .u64 pBSig16]] w fun e w' => ∃ v, e = .returned v ∧ R v w' := forkcheck_Proof_right.ok pAWriter1 pAIndex2 pAPrev3 pAAtT4 pAAtW5 pAEpoch6 pABody7a pABody7n pABody7c pASig8 pBWriter9 pBIndex10 pBPrev11 pBAtT12 pBAtW13 pBEpoch14 pBBody15a pBBody15n pBBody15c pBSig16 (forkcheck_Proof_right.up pAWriter1 pAIndex2 pAPrev3 pAAtT4 pAAtW5 pAEpoch6 pABody7a pABody7n pABody7c pASig8 pBWriter9 pBIndex10 pBPrev11 pBAtT12 pBAtW13 pBEpoch14 pBBody15a pBBody15n pBBody15c pBSig16 h)
theorem forkcheck_Proof_right.run (pAWriter1 : Int) (pAIndex2 : Int) (pAPrev3 : Int) (pAAtT4 : Int) (pAAtW5 : Int) (pAEpoch6 : Int) (pABody7a : Option Addr) (pABody7n : Nat) (pABody7c : Nat) (pASig8 : Int) (pBWriter9 : Int) (pBIndex10 : Int) (pBPrev11 : Int) (pBAtT12 : Int) (pBAtW13 : Int) (pBEpoch14 : Int) (pBBody15a : Option Addr) (pBBody15n : Nat) (pBBody15c : Nat) (pBSig16 : Int) {V : Value} {Q : World → Prop} {w : World} (h : forkcheck_Proof_right.N pAWriter1 pAIndex2 pAPrev3 pAAtT4 pAAtW5 pAEpoch6 pABody7a pABody7n pABody7c pASig8 pBWriter9 pBIndex10 pBPrev11 pBAtT12 pBAtW13 pBEpoch14 pBBody15a pBBody15n pBBody15c pBSig16 (fun v w' => v = V ∧ Q w') w) : Calls Try.prog 52 #[.agg #[.int .i64 pAWriter1, .int .i64 pAIndex2, .int .u64 pAPrev3, .int .i64 pAAtT4, .int .i64 pAAtW5, .int .i64 pAEpoch6, .slice pABody7a pABody7n pABody7c, .int .u64 pASig8, .int .i64 pBWriter9, .int .i64 pBIndex10, .int .u64 pBPrev11, .int .i64 pBAtT12, .int .i64 pBAtW13, .int .i64 pBEpoch14, .slice pBBody15a pBBody15n pBBody15c, .int .u64 pBSig16]] w (Ret V Q) := (forkcheck_Proof_right.go pAWriter1 pAIndex2 pAPrev3 pAAtT4 pAAtW5 pAEpoch6 pABody7a pABody7n pABody7c pASig8 pBWriter9 pBIndex10 pBPrev11 pBAtT12 pBAtW13 pBEpoch14 pBBody15a pBBody15n pBBody15c pBSig16 h).mono fun e w' ⟨v, he, hv, hq⟩ => ⟨by rw [he, hv], hq⟩

def forkcheck_Proof_right.F (pAWriter1 : Int) (pAIndex2 : Int) (pAPrev3 : Int) (pAAtT4 : Int) (pAAtW5 : Int) (pAEpoch6 : Int) (pABody7a : Option Addr) (pABody7n : Nat) (pABody7c : Nat) (pASig8 : Int) (pBWriter9 : Int) (pBIndex10 : Int) (pBPrev11 : Int) (pBAtT12 : Int) (pBAtW13 : Int) (pBEpoch14 : Int) (pBBody15a : Option Addr) (pBBody15n : Nat) (pBBody15c : Nat) (pBSig16 : Int) : Int :=
  if (entry_Right.F pAWriter1 pAIndex2 pAPrev3 pAAtT4 pAAtW5 pAEpoch6 pABody7a pABody7n pABody7c pASig8) = true then
    if (entry_Right.F pBWriter9 pBIndex10 pBPrev11 pBAtT12 pBAtW13 pBEpoch14 pBBody15a pBBody15n pBBody15c pBSig16) = true then
      0
    else
      1
  else
    1
theorem forkcheck_Proof_right.pure (pAWriter1 : Int) (pAIndex2 : Int) (pAPrev3 : Int) (pAAtT4 : Int) (pAAtW5 : Int) (pAEpoch6 : Int) (pABody7a : Option Addr) (pABody7n : Nat) (pABody7c : Nat) (pASig8 : Int) (pBWriter9 : Int) (pBIndex10 : Int) (pBPrev11 : Int) (pBAtT12 : Int) (pBAtW13 : Int) (pBEpoch14 : Int) (pBBody15a : Option Addr) (pBBody15n : Nat) (pBBody15c : Nat) (pBSig16 : Int) {w : World} : Calls Try.prog 52 #[.agg #[.int .i64 pAWriter1, .int .i64 pAIndex2, .int .u64 pAPrev3, .int .i64 pAAtT4, .int .i64 pAAtW5, .int .i64 pAEpoch6, .slice pABody7a pABody7n pABody7c, .int .u64 pASig8, .int .i64 pBWriter9, .int .i64 pBIndex10, .int .u64 pBPrev11, .int .i64 pBAtT12, .int .i64 pBAtW13, .int .i64 pBEpoch14, .slice pBBody15a pBBody15n pBBody15c, .int .u64 pBSig16]] w (Ret (.int .i64 (forkcheck_Proof_right.F pAWriter1 pAIndex2 pAPrev3 pAAtT4 pAAtW5 pAEpoch6 pABody7a pABody7n pABody7c pASig8 pBWriter9 pBIndex10 pBPrev11 pBAtT12 pBAtW13 pBEpoch14 pBBody15a pBBody15n pBBody15c pBSig16)) fun w' => Ext no w w') := by
  refine forkcheck_Proof_right.run pAWriter1 pAIndex2 pAPrev3 pAAtT4 pAAtW5 pAEpoch6 pABody7a pABody7n pABody7c pASig8 pBWriter9 pBIndex10 pBPrev11 pBAtT12 pBAtW13 pBEpoch14 pBBody15a pBBody15n pBBody15c pBSig16 ?_
  unfold forkcheck_Proof_right.N
  refine ⟨fun c0 => ?_, fun c0 => ?_⟩
  · refine ⟨fun c1 => ?_, fun c1 => ?_⟩
    · intro w' hx; exact ⟨by unfold forkcheck_Proof_right.F; rw [if_pos c0, if_pos c1], hx⟩
    · intro w' hx; exact ⟨by unfold forkcheck_Proof_right.F; rw [if_pos c0, if_neg (by rw [c1]; decide)], hx⟩
  · intro w' hx; exact ⟨by unfold forkcheck_Proof_right.F; rw [if_neg (by rw [c0]; decide)], hx⟩

/-- (forkcheck.Proof).writers -/
def forkcheck_Proof_writers.M (pAWriter1 : Int) (pAIndex2 : Int) (pAPrev3 : Int) (pAAtT4 : Int) (pAAtW5 : Int) (pAEpoch6 : Int) (pABody7a : Option Addr) (pABody7n : Nat) (pABody7c : Nat) (pASig8 : Int) (pBWriter9 : Int) (pBIndex10 : Int) (pBPrev11 : Int) (pBAtT12 : Int) (pBAtW13 : Int) (pBEpoch14 : Int) (pBBody15a : Option Addr) (pBBody15n : Nat) (pBBody15c : Nat) (pBSig16 : Int) (R : Value → World → Prop) (w : World) : Prop :=
  thenW (w.alloc (.cells #[.int .i64 pAWriter1, .int .i64 pAIndex2, .int .u64 pAPrev3, .int .i64 pAAtT4, .int .i64 pAAtW5, .int .i64 pAEpoch6, .slice pABody7a pABody7n pABody7c, .int .u64 pASig8, .int .i64 pBWriter9, .int .i64 pBIndex10, .int .u64 pBPrev11, .int .i64 pBAtT12, .int .i64 pBAtW13, .int .i64 pBEpoch14, .slice pBBody15a pBBody15n pBBody15c, .int .u64 pBSig16] 48)) fun ww17 =>
  ∃ (Writer18 : Int), ww17.cell? (((blk w.heap.size).add 0).add 0) = some (.int .i64 Writer18) ∧
  ∃ (Writer19 : Int), ww17.cell? (((blk w.heap.size).add 8).add 0) = some (.int .i64 Writer19) ∧
  bif Writer18 == Writer19 then (
  R (.int .i64 0) ww17) else (
  R (.int .i64 20) ww17)

theorem forkcheck_Proof_writers.eq (pAWriter1 : Int) (pAIndex2 : Int) (pAPrev3 : Int) (pAAtT4 : Int) (pAAtW5 : Int) (pAEpoch6 : Int) (pABody7a : Option Addr) (pABody7n : Nat) (pABody7c : Nat) (pASig8 : Int) (pBWriter9 : Int) (pBIndex10 : Int) (pBPrev11 : Int) (pBAtT12 : Int) (pBAtW13 : Int) (pBEpoch14 : Int) (pBBody15a : Option Addr) (pBBody15n : Nat) (pBBody15c : Nat) (pBSig16 : Int) (R : Value → World → Prop) (w : World) : mfunc Try.prog [] 53 [.agg #[.int .i64 pAWriter1, .int .i64 pAIndex2, .int .u64 pAPrev3, .int .i64 pAAtT4, .int .i64 pAAtW5, .int .i64 pAEpoch6, .slice pABody7a pABody7n pABody7c, .int .u64 pASig8, .int .i64 pBWriter9, .int .i64 pBIndex10, .int .u64 pBPrev11, .int .i64 pBAtT12, .int .i64 pBAtW13, .int .i64 pBEpoch14, .slice pBBody15a pBBody15n pBBody15c, .int .u64 pBSig16]] R w = forkcheck_Proof_writers.M pAWriter1 pAIndex2 pAPrev3 pAAtT4 pAAtW5 pAEpoch6 pABody7a pABody7n pABody7c pASig8 pBWriter9 pBIndex10 pBPrev11 pBAtT12 pBAtW13 pBEpoch14 pBBody15a pBBody15n pBBody15c pBSig16 R w := by kernel_rfl
theorem forkcheck_Proof_writers.ok (pAWriter1 : Int) (pAIndex2 : Int) (pAPrev3 : Int) (pAAtT4 : Int) (pAAtW5 : Int) (pAEpoch6 : Int) (pABody7a : Option Addr) (pABody7n : Nat) (pABody7c : Nat) (pASig8 : Int) (pBWriter9 : Int) (pBIndex10 : Int) (pBPrev11 : Int) (pBAtT12 : Int) (pBAtW13 : Int) (pBEpoch14 : Int) (pBBody15a : Option Addr) (pBBody15n : Nat) (pBBody15c : Nat) (pBSig16 : Int) {R : Value → World → Prop} {w : World} (h : forkcheck_Proof_writers.M pAWriter1 pAIndex2 pAPrev3 pAAtT4 pAAtW5 pAEpoch6 pABody7a pABody7n pABody7c pASig8 pBWriter9 pBIndex10 pBPrev11 pBAtT12 pBAtW13 pBEpoch14 pBBody15a pBBody15n pBBody15c pBSig16 R w) : Calls Try.prog 53 #[.agg #[.int .i64 pAWriter1, .int .i64 pAIndex2, .int .u64 pAPrev3, .int .i64 pAAtT4, .int .i64 pAAtW5, .int .i64 pAEpoch6, .slice pABody7a pABody7n pABody7c, .int .u64 pASig8, .int .i64 pBWriter9, .int .i64 pBIndex10, .int .u64 pBPrev11, .int .i64 pBAtT12, .int .i64 pBAtW13, .int .i64 pBEpoch14, .slice pBBody15a pBBody15n pBBody15c, .int .u64 pBSig16]] w fun e w' => ∃ v, e = .returned v ∧ R v w' :=
  mfunc_ok follows (H := []) (args := [.agg #[.int .i64 pAWriter1, .int .i64 pAIndex2, .int .u64 pAPrev3, .int .i64 pAAtT4, .int .i64 pAAtW5, .int .i64 pAEpoch6, .slice pABody7a pABody7n pABody7c, .int .u64 pASig8, .int .i64 pBWriter9, .int .i64 pBIndex10, .int .u64 pBPrev11, .int .i64 pBAtT12, .int .i64 pBAtW13, .int .i64 pBEpoch14, .slice pBBody15a pBBody15n pBBody15c, .int .u64 pBSig16]]) (by rw [forkcheck_Proof_writers.eq]; exact h)

def forkcheck_Proof_writers.N (pAWriter1 : Int) (pAIndex2 : Int) (pAPrev3 : Int) (pAAtT4 : Int) (pAAtW5 : Int) (pAEpoch6 : Int) (pABody7a : Option Addr) (pABody7n : Nat) (pABody7c : Nat) (pASig8 : Int) (pBWriter9 : Int) (pBIndex10 : Int) (pBPrev11 : Int) (pBAtT12 : Int) (pBAtW13 : Int) (pBEpoch14 : Int) (pBBody15a : Option Addr) (pBBody15n : Nat) (pBBody15c : Nat) (pBSig16 : Int) (R : Value → World → Prop) (w : World) : Prop :=
  (pAWriter1 = pBWriter9 →
    ∀ (ww17 : World), Ext no w ww17 →
    R (.int .i64 0) ww17) ∧
  (pAWriter1 ≠ pBWriter9 →
    ∀ (ww17 : World), Ext no w ww17 →
    R (.int .i64 20) ww17)

theorem forkcheck_Proof_writers.up (pAWriter1 : Int) (pAIndex2 : Int) (pAPrev3 : Int) (pAAtT4 : Int) (pAAtW5 : Int) (pAEpoch6 : Int) (pABody7a : Option Addr) (pABody7n : Nat) (pABody7c : Nat) (pASig8 : Int) (pBWriter9 : Int) (pBIndex10 : Int) (pBPrev11 : Int) (pBAtT12 : Int) (pBAtW13 : Int) (pBEpoch14 : Int) (pBBody15a : Option Addr) (pBBody15n : Nat) (pBBody15c : Nat) (pBSig16 : Int) {R : Value → World → Prop} {w : World} (h : forkcheck_Proof_writers.N pAWriter1 pAIndex2 pAPrev3 pAAtT4 pAAtW5 pAEpoch6 pABody7a pABody7n pABody7c pASig8 pBWriter9 pBIndex10 pBPrev11 pBAtT12 pBAtW13 pBEpoch14 pBBody15a pBBody15n pBBody15c pBSig16 R w) : forkcheck_Proof_writers.M pAWriter1 pAIndex2 pAPrev3 pAAtT4 pAAtW5 pAEpoch6 pABody7a pABody7n pABody7c pASig8 pBWriter9 pBIndex10 pBPrev11 pBAtT12 pBAtW13 pBEpoch14 pBBody15a pBBody15n pBBody15c pBSig16 R w := by
  unfold forkcheck_Proof_writers.M
  unfold forkcheck_Proof_writers.N at h
  refine thenW_in fun ww17 e17 => ?_
  have hb1 := Blk.of_new e17
  have hg1 := ((Ext.refl no w)).size
  have hx17 := (Ext.refl no w).x_alloc e17
  refine ⟨pAWriter1, hb1.celli 0 rfl rfl, ?_⟩
  refine ⟨pBWriter9, hb1.celli 8 rfl rfl, ?_⟩
  refine bif_of (fun c18 => ?_) (fun c18 => ?_)
  · have h := h.1 (beq_t c18)
    have h := h ww17 hx17
    exact h
  · have h := h.2 (beq_f c18)
    have h := h ww17 hx17
    exact h

theorem forkcheck_Proof_writers.go (pAWriter1 : Int) (pAIndex2 : Int) (pAPrev3 : Int) (pAAtT4 : Int) (pAAtW5 : Int) (pAEpoch6 : Int) (pABody7a : Option Addr) (pABody7n : Nat) (pABody7c : Nat) (pASig8 : Int) (pBWriter9 : Int) (pBIndex10 : Int) (pBPrev11 : Int) (pBAtT12 : Int) (pBAtW13 : Int) (pBEpoch14 : Int) (pBBody15a : Option Addr) (pBBody15n : Nat) (pBBody15c : Nat) (pBSig16 : Int) {R : Value → World → Prop} {w : World} (h : forkcheck_Proof_writers.N pAWriter1 pAIndex2 pAPrev3 pAAtT4 pAAtW5 pAEpoch6 pABody7a pABody7n pABody7c pASig8 pBWriter9 pBIndex10 pBPrev11 pBAtT12 pBAtW13 pBEpoch14 pBBody15a pBBody15n pBBody15c pBSig16 R w) : Calls Try.prog 53 #[.agg #[.int .i64 pAWriter1, .int .i64 pAIndex2, .int .u64 pAPrev3, .int .i64 pAAtT4, .int .i64 pAAtW5, .int .i64 pAEpoch6, .slice pABody7a pABody7n pABody7c, .int .u64 pASig8, .int .i64 pBWriter9, .int .i64 pBIndex10, .int .u64 pBPrev11, .int .i64 pBAtT12, .int .i64 pBAtW13, .int .i64 pBEpoch14, .slice pBBody15a pBBody15n pBBody15c, .int .u64 pBSig16]] w fun e w' => ∃ v, e = .returned v ∧ R v w' := forkcheck_Proof_writers.ok pAWriter1 pAIndex2 pAPrev3 pAAtT4 pAAtW5 pAEpoch6 pABody7a pABody7n pABody7c pASig8 pBWriter9 pBIndex10 pBPrev11 pBAtT12 pBAtW13 pBEpoch14 pBBody15a pBBody15n pBBody15c pBSig16 (forkcheck_Proof_writers.up pAWriter1 pAIndex2 pAPrev3 pAAtT4 pAAtW5 pAEpoch6 pABody7a pABody7n pABody7c pASig8 pBWriter9 pBIndex10 pBPrev11 pBAtT12 pBAtW13 pBEpoch14 pBBody15a pBBody15n pBBody15c pBSig16 h)
theorem forkcheck_Proof_writers.run (pAWriter1 : Int) (pAIndex2 : Int) (pAPrev3 : Int) (pAAtT4 : Int) (pAAtW5 : Int) (pAEpoch6 : Int) (pABody7a : Option Addr) (pABody7n : Nat) (pABody7c : Nat) (pASig8 : Int) (pBWriter9 : Int) (pBIndex10 : Int) (pBPrev11 : Int) (pBAtT12 : Int) (pBAtW13 : Int) (pBEpoch14 : Int) (pBBody15a : Option Addr) (pBBody15n : Nat) (pBBody15c : Nat) (pBSig16 : Int) {V : Value} {Q : World → Prop} {w : World} (h : forkcheck_Proof_writers.N pAWriter1 pAIndex2 pAPrev3 pAAtT4 pAAtW5 pAEpoch6 pABody7a pABody7n pABody7c pASig8 pBWriter9 pBIndex10 pBPrev11 pBAtT12 pBAtW13 pBEpoch14 pBBody15a pBBody15n pBBody15c pBSig16 (fun v w' => v = V ∧ Q w') w) : Calls Try.prog 53 #[.agg #[.int .i64 pAWriter1, .int .i64 pAIndex2, .int .u64 pAPrev3, .int .i64 pAAtT4, .int .i64 pAAtW5, .int .i64 pAEpoch6, .slice pABody7a pABody7n pABody7c, .int .u64 pASig8, .int .i64 pBWriter9, .int .i64 pBIndex10, .int .u64 pBPrev11, .int .i64 pBAtT12, .int .i64 pBAtW13, .int .i64 pBEpoch14, .slice pBBody15a pBBody15n pBBody15c, .int .u64 pBSig16]] w (Ret V Q) := (forkcheck_Proof_writers.go pAWriter1 pAIndex2 pAPrev3 pAAtT4 pAAtW5 pAEpoch6 pABody7a pABody7n pABody7c pASig8 pBWriter9 pBIndex10 pBPrev11 pBAtT12 pBAtW13 pBEpoch14 pBBody15a pBBody15n pBBody15c pBSig16 h).mono fun e w' ⟨v, he, hv, hq⟩ => ⟨by rw [he, hv], hq⟩

def forkcheck_Proof_writers.F (pAWriter1 : Int) (pAIndex2 : Int) (pAPrev3 : Int) (pAAtT4 : Int) (pAAtW5 : Int) (pAEpoch6 : Int) (pABody7a : Option Addr) (pABody7n : Nat) (pABody7c : Nat) (pASig8 : Int) (pBWriter9 : Int) (pBIndex10 : Int) (pBPrev11 : Int) (pBAtT12 : Int) (pBAtW13 : Int) (pBEpoch14 : Int) (pBBody15a : Option Addr) (pBBody15n : Nat) (pBBody15c : Nat) (pBSig16 : Int) : Int :=
  if pAWriter1 = pBWriter9 then
    0
  else
    20
theorem forkcheck_Proof_writers.pure (pAWriter1 : Int) (pAIndex2 : Int) (pAPrev3 : Int) (pAAtT4 : Int) (pAAtW5 : Int) (pAEpoch6 : Int) (pABody7a : Option Addr) (pABody7n : Nat) (pABody7c : Nat) (pASig8 : Int) (pBWriter9 : Int) (pBIndex10 : Int) (pBPrev11 : Int) (pBAtT12 : Int) (pBAtW13 : Int) (pBEpoch14 : Int) (pBBody15a : Option Addr) (pBBody15n : Nat) (pBBody15c : Nat) (pBSig16 : Int) {w : World} : Calls Try.prog 53 #[.agg #[.int .i64 pAWriter1, .int .i64 pAIndex2, .int .u64 pAPrev3, .int .i64 pAAtT4, .int .i64 pAAtW5, .int .i64 pAEpoch6, .slice pABody7a pABody7n pABody7c, .int .u64 pASig8, .int .i64 pBWriter9, .int .i64 pBIndex10, .int .u64 pBPrev11, .int .i64 pBAtT12, .int .i64 pBAtW13, .int .i64 pBEpoch14, .slice pBBody15a pBBody15n pBBody15c, .int .u64 pBSig16]] w (Ret (.int .i64 (forkcheck_Proof_writers.F pAWriter1 pAIndex2 pAPrev3 pAAtT4 pAAtW5 pAEpoch6 pABody7a pABody7n pABody7c pASig8 pBWriter9 pBIndex10 pBPrev11 pBAtT12 pBAtW13 pBEpoch14 pBBody15a pBBody15n pBBody15c pBSig16)) fun w' => Ext no w w') := by
  refine forkcheck_Proof_writers.run pAWriter1 pAIndex2 pAPrev3 pAAtT4 pAAtW5 pAEpoch6 pABody7a pABody7n pABody7c pASig8 pBWriter9 pBIndex10 pBPrev11 pBAtT12 pBAtW13 pBEpoch14 pBBody15a pBBody15n pBBody15c pBSig16 ?_
  unfold forkcheck_Proof_writers.N
  refine ⟨fun c0 => ?_, fun c0 => ?_⟩
  · intro w' hx; exact ⟨by unfold forkcheck_Proof_writers.F; rw [if_pos c0], hx⟩
  · intro w' hx; exact ⟨by unfold forkcheck_Proof_writers.F; rw [if_neg c0], hx⟩

/-- (forkcheck.Proof).places -/
def forkcheck_Proof_places.M (pAWriter1 : Int) (pAIndex2 : Int) (pAPrev3 : Int) (pAAtT4 : Int) (pAAtW5 : Int) (pAEpoch6 : Int) (pABody7a : Option Addr) (pABody7n : Nat) (pABody7c : Nat) (pASig8 : Int) (pBWriter9 : Int) (pBIndex10 : Int) (pBPrev11 : Int) (pBAtT12 : Int) (pBAtW13 : Int) (pBEpoch14 : Int) (pBBody15a : Option Addr) (pBBody15n : Nat) (pBBody15c : Nat) (pBSig16 : Int) (R : Value → World → Prop) (w : World) : Prop :=
  thenW (w.alloc (.cells #[.int .i64 pAWriter1, .int .i64 pAIndex2, .int .u64 pAPrev3, .int .i64 pAAtT4, .int .i64 pAAtW5, .int .i64 pAEpoch6, .slice pABody7a pABody7n pABody7c, .int .u64 pASig8, .int .i64 pBWriter9, .int .i64 pBIndex10, .int .u64 pBPrev11, .int .i64 pBAtT12, .int .i64 pBAtW13, .int .i64 pBEpoch14, .slice pBBody15a pBBody15n pBBody15c, .int .u64 pBSig16] 48)) fun ww17 =>
  ∃ (Index18 : Int), ww17.cell? (((blk w.heap.size).add 0).add 1) = some (.int .i64 Index18) ∧
  ∃ (Index19 : Int), ww17.cell? (((blk w.heap.size).add 8).add 1) = some (.int .i64 Index19) ∧
  bif Index18 == Index19 then (
  R (.int .i64 0) ww17) else (
  R (.int .i64 2) ww17)

theorem forkcheck_Proof_places.eq (pAWriter1 : Int) (pAIndex2 : Int) (pAPrev3 : Int) (pAAtT4 : Int) (pAAtW5 : Int) (pAEpoch6 : Int) (pABody7a : Option Addr) (pABody7n : Nat) (pABody7c : Nat) (pASig8 : Int) (pBWriter9 : Int) (pBIndex10 : Int) (pBPrev11 : Int) (pBAtT12 : Int) (pBAtW13 : Int) (pBEpoch14 : Int) (pBBody15a : Option Addr) (pBBody15n : Nat) (pBBody15c : Nat) (pBSig16 : Int) (R : Value → World → Prop) (w : World) : mfunc Try.prog [] 54 [.agg #[.int .i64 pAWriter1, .int .i64 pAIndex2, .int .u64 pAPrev3, .int .i64 pAAtT4, .int .i64 pAAtW5, .int .i64 pAEpoch6, .slice pABody7a pABody7n pABody7c, .int .u64 pASig8, .int .i64 pBWriter9, .int .i64 pBIndex10, .int .u64 pBPrev11, .int .i64 pBAtT12, .int .i64 pBAtW13, .int .i64 pBEpoch14, .slice pBBody15a pBBody15n pBBody15c, .int .u64 pBSig16]] R w = forkcheck_Proof_places.M pAWriter1 pAIndex2 pAPrev3 pAAtT4 pAAtW5 pAEpoch6 pABody7a pABody7n pABody7c pASig8 pBWriter9 pBIndex10 pBPrev11 pBAtT12 pBAtW13 pBEpoch14 pBBody15a pBBody15n pBBody15c pBSig16 R w := by kernel_rfl
theorem forkcheck_Proof_places.ok (pAWriter1 : Int) (pAIndex2 : Int) (pAPrev3 : Int) (pAAtT4 : Int) (pAAtW5 : Int) (pAEpoch6 : Int) (pABody7a : Option Addr) (pABody7n : Nat) (pABody7c : Nat) (pASig8 : Int) (pBWriter9 : Int) (pBIndex10 : Int) (pBPrev11 : Int) (pBAtT12 : Int) (pBAtW13 : Int) (pBEpoch14 : Int) (pBBody15a : Option Addr) (pBBody15n : Nat) (pBBody15c : Nat) (pBSig16 : Int) {R : Value → World → Prop} {w : World} (h : forkcheck_Proof_places.M pAWriter1 pAIndex2 pAPrev3 pAAtT4 pAAtW5 pAEpoch6 pABody7a pABody7n pABody7c pASig8 pBWriter9 pBIndex10 pBPrev11 pBAtT12 pBAtW13 pBEpoch14 pBBody15a pBBody15n pBBody15c pBSig16 R w) : Calls Try.prog 54 #[.agg #[.int .i64 pAWriter1, .int .i64 pAIndex2, .int .u64 pAPrev3, .int .i64 pAAtT4, .int .i64 pAAtW5, .int .i64 pAEpoch6, .slice pABody7a pABody7n pABody7c, .int .u64 pASig8, .int .i64 pBWriter9, .int .i64 pBIndex10, .int .u64 pBPrev11, .int .i64 pBAtT12, .int .i64 pBAtW13, .int .i64 pBEpoch14, .slice pBBody15a pBBody15n pBBody15c, .int .u64 pBSig16]] w fun e w' => ∃ v, e = .returned v ∧ R v w' :=
  mfunc_ok follows (H := []) (args := [.agg #[.int .i64 pAWriter1, .int .i64 pAIndex2, .int .u64 pAPrev3, .int .i64 pAAtT4, .int .i64 pAAtW5, .int .i64 pAEpoch6, .slice pABody7a pABody7n pABody7c, .int .u64 pASig8, .int .i64 pBWriter9, .int .i64 pBIndex10, .int .u64 pBPrev11, .int .i64 pBAtT12, .int .i64 pBAtW13, .int .i64 pBEpoch14, .slice pBBody15a pBBody15n pBBody15c, .int .u64 pBSig16]]) (by rw [forkcheck_Proof_places.eq]; exact h)

def forkcheck_Proof_places.N (pAWriter1 : Int) (pAIndex2 : Int) (pAPrev3 : Int) (pAAtT4 : Int) (pAAtW5 : Int) (pAEpoch6 : Int) (pABody7a : Option Addr) (pABody7n : Nat) (pABody7c : Nat) (pASig8 : Int) (pBWriter9 : Int) (pBIndex10 : Int) (pBPrev11 : Int) (pBAtT12 : Int) (pBAtW13 : Int) (pBEpoch14 : Int) (pBBody15a : Option Addr) (pBBody15n : Nat) (pBBody15c : Nat) (pBSig16 : Int) (R : Value → World → Prop) (w : World) : Prop :=
  (pAIndex2 = pBIndex10 →
    ∀ (ww17 : World), Ext no w ww17 →
    R (.int .i64 0) ww17) ∧
  (pAIndex2 ≠ pBIndex10 →
    ∀ (ww17 : World), Ext no w ww17 →
    R (.int .i64 2) ww17)

theorem forkcheck_Proof_places.up (pAWriter1 : Int) (pAIndex2 : Int) (pAPrev3 : Int) (pAAtT4 : Int) (pAAtW5 : Int) (pAEpoch6 : Int) (pABody7a : Option Addr) (pABody7n : Nat) (pABody7c : Nat) (pASig8 : Int) (pBWriter9 : Int) (pBIndex10 : Int) (pBPrev11 : Int) (pBAtT12 : Int) (pBAtW13 : Int) (pBEpoch14 : Int) (pBBody15a : Option Addr) (pBBody15n : Nat) (pBBody15c : Nat) (pBSig16 : Int) {R : Value → World → Prop} {w : World} (h : forkcheck_Proof_places.N pAWriter1 pAIndex2 pAPrev3 pAAtT4 pAAtW5 pAEpoch6 pABody7a pABody7n pABody7c pASig8 pBWriter9 pBIndex10 pBPrev11 pBAtT12 pBAtW13 pBEpoch14 pBBody15a pBBody15n pBBody15c pBSig16 R w) : forkcheck_Proof_places.M pAWriter1 pAIndex2 pAPrev3 pAAtT4 pAAtW5 pAEpoch6 pABody7a pABody7n pABody7c pASig8 pBWriter9 pBIndex10 pBPrev11 pBAtT12 pBAtW13 pBEpoch14 pBBody15a pBBody15n pBBody15c pBSig16 R w := by
  unfold forkcheck_Proof_places.M
  unfold forkcheck_Proof_places.N at h
  refine thenW_in fun ww17 e17 => ?_
  have hb1 := Blk.of_new e17
  have hg1 := ((Ext.refl no w)).size
  have hx17 := (Ext.refl no w).x_alloc e17
  refine ⟨pAIndex2, hb1.celli 1 rfl rfl, ?_⟩
  refine ⟨pBIndex10, hb1.celli 9 rfl rfl, ?_⟩
  refine bif_of (fun c18 => ?_) (fun c18 => ?_)
  · have h := h.1 (beq_t c18)
    have h := h ww17 hx17
    exact h
  · have h := h.2 (beq_f c18)
    have h := h ww17 hx17
    exact h

theorem forkcheck_Proof_places.go (pAWriter1 : Int) (pAIndex2 : Int) (pAPrev3 : Int) (pAAtT4 : Int) (pAAtW5 : Int) (pAEpoch6 : Int) (pABody7a : Option Addr) (pABody7n : Nat) (pABody7c : Nat) (pASig8 : Int) (pBWriter9 : Int) (pBIndex10 : Int) (pBPrev11 : Int) (pBAtT12 : Int) (pBAtW13 : Int) (pBEpoch14 : Int) (pBBody15a : Option Addr) (pBBody15n : Nat) (pBBody15c : Nat) (pBSig16 : Int) {R : Value → World → Prop} {w : World} (h : forkcheck_Proof_places.N pAWriter1 pAIndex2 pAPrev3 pAAtT4 pAAtW5 pAEpoch6 pABody7a pABody7n pABody7c pASig8 pBWriter9 pBIndex10 pBPrev11 pBAtT12 pBAtW13 pBEpoch14 pBBody15a pBBody15n pBBody15c pBSig16 R w) : Calls Try.prog 54 #[.agg #[.int .i64 pAWriter1, .int .i64 pAIndex2, .int .u64 pAPrev3, .int .i64 pAAtT4, .int .i64 pAAtW5, .int .i64 pAEpoch6, .slice pABody7a pABody7n pABody7c, .int .u64 pASig8, .int .i64 pBWriter9, .int .i64 pBIndex10, .int .u64 pBPrev11, .int .i64 pBAtT12, .int .i64 pBAtW13, .int .i64 pBEpoch14, .slice pBBody15a pBBody15n pBBody15c, .int .u64 pBSig16]] w fun e w' => ∃ v, e = .returned v ∧ R v w' := forkcheck_Proof_places.ok pAWriter1 pAIndex2 pAPrev3 pAAtT4 pAAtW5 pAEpoch6 pABody7a pABody7n pABody7c pASig8 pBWriter9 pBIndex10 pBPrev11 pBAtT12 pBAtW13 pBEpoch14 pBBody15a pBBody15n pBBody15c pBSig16 (forkcheck_Proof_places.up pAWriter1 pAIndex2 pAPrev3 pAAtT4 pAAtW5 pAEpoch6 pABody7a pABody7n pABody7c pASig8 pBWriter9 pBIndex10 pBPrev11 pBAtT12 pBAtW13 pBEpoch14 pBBody15a pBBody15n pBBody15c pBSig16 h)
theorem forkcheck_Proof_places.run (pAWriter1 : Int) (pAIndex2 : Int) (pAPrev3 : Int) (pAAtT4 : Int) (pAAtW5 : Int) (pAEpoch6 : Int) (pABody7a : Option Addr) (pABody7n : Nat) (pABody7c : Nat) (pASig8 : Int) (pBWriter9 : Int) (pBIndex10 : Int) (pBPrev11 : Int) (pBAtT12 : Int) (pBAtW13 : Int) (pBEpoch14 : Int) (pBBody15a : Option Addr) (pBBody15n : Nat) (pBBody15c : Nat) (pBSig16 : Int) {V : Value} {Q : World → Prop} {w : World} (h : forkcheck_Proof_places.N pAWriter1 pAIndex2 pAPrev3 pAAtT4 pAAtW5 pAEpoch6 pABody7a pABody7n pABody7c pASig8 pBWriter9 pBIndex10 pBPrev11 pBAtT12 pBAtW13 pBEpoch14 pBBody15a pBBody15n pBBody15c pBSig16 (fun v w' => v = V ∧ Q w') w) : Calls Try.prog 54 #[.agg #[.int .i64 pAWriter1, .int .i64 pAIndex2, .int .u64 pAPrev3, .int .i64 pAAtT4, .int .i64 pAAtW5, .int .i64 pAEpoch6, .slice pABody7a pABody7n pABody7c, .int .u64 pASig8, .int .i64 pBWriter9, .int .i64 pBIndex10, .int .u64 pBPrev11, .int .i64 pBAtT12, .int .i64 pBAtW13, .int .i64 pBEpoch14, .slice pBBody15a pBBody15n pBBody15c, .int .u64 pBSig16]] w (Ret V Q) := (forkcheck_Proof_places.go pAWriter1 pAIndex2 pAPrev3 pAAtT4 pAAtW5 pAEpoch6 pABody7a pABody7n pABody7c pASig8 pBWriter9 pBIndex10 pBPrev11 pBAtT12 pBAtW13 pBEpoch14 pBBody15a pBBody15n pBBody15c pBSig16 h).mono fun e w' ⟨v, he, hv, hq⟩ => ⟨by rw [he, hv], hq⟩

def forkcheck_Proof_places.F (pAWriter1 : Int) (pAIndex2 : Int) (pAPrev3 : Int) (pAAtT4 : Int) (pAAtW5 : Int) (pAEpoch6 : Int) (pABody7a : Option Addr) (pABody7n : Nat) (pABody7c : Nat) (pASig8 : Int) (pBWriter9 : Int) (pBIndex10 : Int) (pBPrev11 : Int) (pBAtT12 : Int) (pBAtW13 : Int) (pBEpoch14 : Int) (pBBody15a : Option Addr) (pBBody15n : Nat) (pBBody15c : Nat) (pBSig16 : Int) : Int :=
  if pAIndex2 = pBIndex10 then
    0
  else
    2
theorem forkcheck_Proof_places.pure (pAWriter1 : Int) (pAIndex2 : Int) (pAPrev3 : Int) (pAAtT4 : Int) (pAAtW5 : Int) (pAEpoch6 : Int) (pABody7a : Option Addr) (pABody7n : Nat) (pABody7c : Nat) (pASig8 : Int) (pBWriter9 : Int) (pBIndex10 : Int) (pBPrev11 : Int) (pBAtT12 : Int) (pBAtW13 : Int) (pBEpoch14 : Int) (pBBody15a : Option Addr) (pBBody15n : Nat) (pBBody15c : Nat) (pBSig16 : Int) {w : World} : Calls Try.prog 54 #[.agg #[.int .i64 pAWriter1, .int .i64 pAIndex2, .int .u64 pAPrev3, .int .i64 pAAtT4, .int .i64 pAAtW5, .int .i64 pAEpoch6, .slice pABody7a pABody7n pABody7c, .int .u64 pASig8, .int .i64 pBWriter9, .int .i64 pBIndex10, .int .u64 pBPrev11, .int .i64 pBAtT12, .int .i64 pBAtW13, .int .i64 pBEpoch14, .slice pBBody15a pBBody15n pBBody15c, .int .u64 pBSig16]] w (Ret (.int .i64 (forkcheck_Proof_places.F pAWriter1 pAIndex2 pAPrev3 pAAtT4 pAAtW5 pAEpoch6 pABody7a pABody7n pABody7c pASig8 pBWriter9 pBIndex10 pBPrev11 pBAtT12 pBAtW13 pBEpoch14 pBBody15a pBBody15n pBBody15c pBSig16)) fun w' => Ext no w w') := by
  refine forkcheck_Proof_places.run pAWriter1 pAIndex2 pAPrev3 pAAtT4 pAAtW5 pAEpoch6 pABody7a pABody7n pABody7c pASig8 pBWriter9 pBIndex10 pBPrev11 pBAtT12 pBAtW13 pBEpoch14 pBBody15a pBBody15n pBBody15c pBSig16 ?_
  unfold forkcheck_Proof_places.N
  refine ⟨fun c0 => ?_, fun c0 => ?_⟩
  · intro w' hx; exact ⟨by unfold forkcheck_Proof_places.F; rw [if_pos c0], hx⟩
  · intro w' hx; exact ⟨by unfold forkcheck_Proof_places.F; rw [if_neg c0], hx⟩

/-- (forkcheck.Proof).apart -/
def forkcheck_Proof_apart.M (pAWriter1 : Int) (pAIndex2 : Int) (pAPrev3 : Int) (pAAtT4 : Int) (pAAtW5 : Int) (pAEpoch6 : Int) (pABody7a : Option Addr) (pABody7n : Nat) (pABody7c : Nat) (pASig8 : Int) (pBWriter9 : Int) (pBIndex10 : Int) (pBPrev11 : Int) (pBAtT12 : Int) (pBAtW13 : Int) (pBEpoch14 : Int) (pBBody15a : Option Addr) (pBBody15n : Nat) (pBBody15c : Nat) (pBSig16 : Int) (R : Value → World → Prop) (w : World) : Prop :=
  thenW (w.alloc (.cells #[.int .i64 pAWriter1, .int .i64 pAIndex2, .int .u64 pAPrev3, .int .i64 pAAtT4, .int .i64 pAAtW5, .int .i64 pAEpoch6, .slice pABody7a pABody7n pABody7c, .int .u64 pASig8, .int .i64 pBWriter9, .int .i64 pBIndex10, .int .u64 pBPrev11, .int .i64 pBAtT12, .int .i64 pBAtW13, .int .i64 pBEpoch14, .slice pBBody15a pBBody15n pBBody15c, .int .u64 pBSig16] 48)) fun ww17 =>
  ∃ (AWriter18 : Int) (AIndex19 : Int) (APrev20 : Int) (AAtT21 : Int) (AAtW22 : Int) (AEpoch23 : Int) (ABody24a : Option Addr) (ABody24n : Nat) (ABody24c : Nat) (ASig25 : Int), cellsAt ww17 ((blk w.heap.size).add 0) [.int .i64 AWriter18, .int .i64 AIndex19, .int .u64 APrev20, .int .i64 AAtT21, .int .i64 AAtW22, .int .i64 AEpoch23, .slice ABody24a ABody24n ABody24c, .int .u64 ASig25] 0 ∧
  ∃ (BWriter26 : Int) (BIndex27 : Int) (BPrev28 : Int) (BAtT29 : Int) (BAtW30 : Int) (BEpoch31 : Int) (BBody32a : Option Addr) (BBody32n : Nat) (BBody32c : Nat) (BSig33 : Int), cellsAt ww17 ((blk w.heap.size).add 8) [.int .i64 BWriter26, .int .i64 BIndex27, .int .u64 BPrev28, .int .i64 BAtT29, .int .i64 BAtW30, .int .i64 BEpoch31, .slice BBody32a BBody32n BBody32c, .int .u64 BSig33] 0 ∧
  Calls Try.prog 59 #[.agg #[.int .i64 AWriter18, .int .i64 AIndex19, .int .u64 APrev20, .int .i64 AAtT21, .int .i64 AAtW22, .int .i64 AEpoch23, .slice ABody24a ABody24n ABody24c, .int .u64 ASig25], .agg #[.int .i64 BWriter26, .int .i64 BIndex27, .int .u64 BPrev28, .int .i64 BAtT29, .int .i64 BAtW30, .int .i64 BEpoch31, .slice BBody32a BBody32n BBody32c, .int .u64 BSig33]] ww17 fun ee35 ww36 => ∃ (same34 : Bool), ee35 = .returned (.bool same34) ∧
  bif same34 then (
  R (.int .i64 8) ww36) else (
  R (.int .i64 0) ww36)

theorem forkcheck_Proof_apart.eq (pAWriter1 : Int) (pAIndex2 : Int) (pAPrev3 : Int) (pAAtT4 : Int) (pAAtW5 : Int) (pAEpoch6 : Int) (pABody7a : Option Addr) (pABody7n : Nat) (pABody7c : Nat) (pASig8 : Int) (pBWriter9 : Int) (pBIndex10 : Int) (pBPrev11 : Int) (pBAtT12 : Int) (pBAtW13 : Int) (pBEpoch14 : Int) (pBBody15a : Option Addr) (pBBody15n : Nat) (pBBody15c : Nat) (pBSig16 : Int) (R : Value → World → Prop) (w : World) : mfunc Try.prog [] 55 [.agg #[.int .i64 pAWriter1, .int .i64 pAIndex2, .int .u64 pAPrev3, .int .i64 pAAtT4, .int .i64 pAAtW5, .int .i64 pAEpoch6, .slice pABody7a pABody7n pABody7c, .int .u64 pASig8, .int .i64 pBWriter9, .int .i64 pBIndex10, .int .u64 pBPrev11, .int .i64 pBAtT12, .int .i64 pBAtW13, .int .i64 pBEpoch14, .slice pBBody15a pBBody15n pBBody15c, .int .u64 pBSig16]] R w = forkcheck_Proof_apart.M pAWriter1 pAIndex2 pAPrev3 pAAtT4 pAAtW5 pAEpoch6 pABody7a pABody7n pABody7c pASig8 pBWriter9 pBIndex10 pBPrev11 pBAtT12 pBAtW13 pBEpoch14 pBBody15a pBBody15n pBBody15c pBSig16 R w := by kernel_rfl
theorem forkcheck_Proof_apart.ok (pAWriter1 : Int) (pAIndex2 : Int) (pAPrev3 : Int) (pAAtT4 : Int) (pAAtW5 : Int) (pAEpoch6 : Int) (pABody7a : Option Addr) (pABody7n : Nat) (pABody7c : Nat) (pASig8 : Int) (pBWriter9 : Int) (pBIndex10 : Int) (pBPrev11 : Int) (pBAtT12 : Int) (pBAtW13 : Int) (pBEpoch14 : Int) (pBBody15a : Option Addr) (pBBody15n : Nat) (pBBody15c : Nat) (pBSig16 : Int) {R : Value → World → Prop} {w : World} (h : forkcheck_Proof_apart.M pAWriter1 pAIndex2 pAPrev3 pAAtT4 pAAtW5 pAEpoch6 pABody7a pABody7n pABody7c pASig8 pBWriter9 pBIndex10 pBPrev11 pBAtT12 pBAtW13 pBEpoch14 pBBody15a pBBody15n pBBody15c pBSig16 R w) : Calls Try.prog 55 #[.agg #[.int .i64 pAWriter1, .int .i64 pAIndex2, .int .u64 pAPrev3, .int .i64 pAAtT4, .int .i64 pAAtW5, .int .i64 pAEpoch6, .slice pABody7a pABody7n pABody7c, .int .u64 pASig8, .int .i64 pBWriter9, .int .i64 pBIndex10, .int .u64 pBPrev11, .int .i64 pBAtT12, .int .i64 pBAtW13, .int .i64 pBEpoch14, .slice pBBody15a pBBody15n pBBody15c, .int .u64 pBSig16]] w fun e w' => ∃ v, e = .returned v ∧ R v w' :=
  mfunc_ok follows (H := []) (args := [.agg #[.int .i64 pAWriter1, .int .i64 pAIndex2, .int .u64 pAPrev3, .int .i64 pAAtT4, .int .i64 pAAtW5, .int .i64 pAEpoch6, .slice pABody7a pABody7n pABody7c, .int .u64 pASig8, .int .i64 pBWriter9, .int .i64 pBIndex10, .int .u64 pBPrev11, .int .i64 pBAtT12, .int .i64 pBAtW13, .int .i64 pBEpoch14, .slice pBBody15a pBBody15n pBBody15c, .int .u64 pBSig16]]) (by rw [forkcheck_Proof_apart.eq]; exact h)

def forkcheck_Proof_apart.N (pAWriter1 : Int) (pAIndex2 : Int) (pAPrev3 : Int) (pAAtT4 : Int) (pAAtW5 : Int) (pAEpoch6 : Int) (pABody7a : Option Addr) (pABody7n : Nat) (pABody7c : Nat) (pASig8 : Int) (pBWriter9 : Int) (pBIndex10 : Int) (pBPrev11 : Int) (pBAtT12 : Int) (pBAtW13 : Int) (pBEpoch14 : Int) (pBBody15a : Option Addr) (pBBody15n : Nat) (pBBody15c : Nat) (pBSig16 : Int) (R : Value → World → Prop) (w : World) : Prop :=
  ∀ (ww17 : World), Ext no w ww17 →
  Calls Try.prog 59 #[.agg #[.int .i64 pAWriter1, .int .i64 pAIndex2, .int .u64 pAPrev3, .int .i64 pAAtT4, .int .i64 pAAtW5, .int .i64 pAEpoch6, .slice pABody7a pABody7n pABody7c, .int .u64 pASig8], .agg #[.int .i64 pBWriter9, .int .i64 pBIndex10, .int .u64 pBPrev11, .int .i64 pBAtT12, .int .i64 pBAtW13, .int .i64 pBEpoch14, .slice pBBody15a pBBody15n pBBody15c, .int .u64 pBSig16]] ww17 fun ee20 ww21 => ∃ (same19 : Bool), ee20 = .returned (.bool same19) ∧
  (same19 = true →
    R (.int .i64 8) ww21) ∧
  (same19 = false →
    R (.int .i64 0) ww21)

theorem forkcheck_Proof_apart.up (pAWriter1 : Int) (pAIndex2 : Int) (pAPrev3 : Int) (pAAtT4 : Int) (pAAtW5 : Int) (pAEpoch6 : Int) (pABody7a : Option Addr) (pABody7n : Nat) (pABody7c : Nat) (pASig8 : Int) (pBWriter9 : Int) (pBIndex10 : Int) (pBPrev11 : Int) (pBAtT12 : Int) (pBAtW13 : Int) (pBEpoch14 : Int) (pBBody15a : Option Addr) (pBBody15n : Nat) (pBBody15c : Nat) (pBSig16 : Int) {R : Value → World → Prop} {w : World} (h : forkcheck_Proof_apart.N pAWriter1 pAIndex2 pAPrev3 pAAtT4 pAAtW5 pAEpoch6 pABody7a pABody7n pABody7c pASig8 pBWriter9 pBIndex10 pBPrev11 pBAtT12 pBAtW13 pBEpoch14 pBBody15a pBBody15n pBBody15c pBSig16 R w) : forkcheck_Proof_apart.M pAWriter1 pAIndex2 pAPrev3 pAAtT4 pAAtW5 pAEpoch6 pABody7a pABody7n pABody7c pASig8 pBWriter9 pBIndex10 pBPrev11 pBAtT12 pBAtW13 pBEpoch14 pBBody15a pBBody15n pBBody15c pBSig16 R w := by
  unfold forkcheck_Proof_apart.M
  unfold forkcheck_Proof_apart.N at h
  refine thenW_in fun ww17 e17 => ?_
  have hb1 := Blk.of_new e17
  have hg1 := ((Ext.refl no w)).size
  have hx17 := (Ext.refl no w).x_alloc e17
  refine ⟨pAWriter1, pAIndex2, pAPrev3, pAAtT4, pAAtW5, pAEpoch6, pABody7a, pABody7n, pABody7c, pASig8, ⟨hb1.celli 0 rfl rfl, hb1.celli 1 rfl rfl, hb1.celli 2 rfl rfl, hb1.celli 3 rfl rfl, hb1.celli 4 rfl rfl, hb1.celli 5 rfl rfl, hb1.celli 6 rfl rfl, hb1.celli 7 rfl rfl, trivial⟩, ?_⟩
  refine ⟨pBWriter9, pBIndex10, pBPrev11, pBAtT12, pBAtW13, pBEpoch14, pBBody15a, pBBody15n, pBBody15c, pBSig16, ⟨hb1.celli 8 rfl rfl, hb1.celli 9 rfl rfl, hb1.celli 10 rfl rfl, hb1.celli 11 rfl rfl, hb1.celli 12 rfl rfl, hb1.celli 13 rfl rfl, hb1.celli 14 rfl rfl, hb1.celli 15 rfl rfl, trivial⟩, ?_⟩
  have h := h ww17 hx17
  refine h.mono fun ee20 ww21 h => ?_
  obtain ⟨same19, he, h⟩ := h
  refine ⟨same19, he, ?_⟩
  refine bif_of (fun c22 => ?_) (fun c22 => ?_)
  · have h := h.1 c22
    exact h
  · have h := h.2 c22
    exact h

theorem forkcheck_Proof_apart.go (pAWriter1 : Int) (pAIndex2 : Int) (pAPrev3 : Int) (pAAtT4 : Int) (pAAtW5 : Int) (pAEpoch6 : Int) (pABody7a : Option Addr) (pABody7n : Nat) (pABody7c : Nat) (pASig8 : Int) (pBWriter9 : Int) (pBIndex10 : Int) (pBPrev11 : Int) (pBAtT12 : Int) (pBAtW13 : Int) (pBEpoch14 : Int) (pBBody15a : Option Addr) (pBBody15n : Nat) (pBBody15c : Nat) (pBSig16 : Int) {R : Value → World → Prop} {w : World} (h : forkcheck_Proof_apart.N pAWriter1 pAIndex2 pAPrev3 pAAtT4 pAAtW5 pAEpoch6 pABody7a pABody7n pABody7c pASig8 pBWriter9 pBIndex10 pBPrev11 pBAtT12 pBAtW13 pBEpoch14 pBBody15a pBBody15n pBBody15c pBSig16 R w) : Calls Try.prog 55 #[.agg #[.int .i64 pAWriter1, .int .i64 pAIndex2, .int .u64 pAPrev3, .int .i64 pAAtT4, .int .i64 pAAtW5, .int .i64 pAEpoch6, .slice pABody7a pABody7n pABody7c, .int .u64 pASig8, .int .i64 pBWriter9, .int .i64 pBIndex10, .int .u64 pBPrev11, .int .i64 pBAtT12, .int .i64 pBAtW13, .int .i64 pBEpoch14, .slice pBBody15a pBBody15n pBBody15c, .int .u64 pBSig16]] w fun e w' => ∃ v, e = .returned v ∧ R v w' := forkcheck_Proof_apart.ok pAWriter1 pAIndex2 pAPrev3 pAAtT4 pAAtW5 pAEpoch6 pABody7a pABody7n pABody7c pASig8 pBWriter9 pBIndex10 pBPrev11 pBAtT12 pBAtW13 pBEpoch14 pBBody15a pBBody15n pBBody15c pBSig16 (forkcheck_Proof_apart.up pAWriter1 pAIndex2 pAPrev3 pAAtT4 pAAtW5 pAEpoch6 pABody7a pABody7n pABody7c pASig8 pBWriter9 pBIndex10 pBPrev11 pBAtT12 pBAtW13 pBEpoch14 pBBody15a pBBody15n pBBody15c pBSig16 h)
theorem forkcheck_Proof_apart.run (pAWriter1 : Int) (pAIndex2 : Int) (pAPrev3 : Int) (pAAtT4 : Int) (pAAtW5 : Int) (pAEpoch6 : Int) (pABody7a : Option Addr) (pABody7n : Nat) (pABody7c : Nat) (pASig8 : Int) (pBWriter9 : Int) (pBIndex10 : Int) (pBPrev11 : Int) (pBAtT12 : Int) (pBAtW13 : Int) (pBEpoch14 : Int) (pBBody15a : Option Addr) (pBBody15n : Nat) (pBBody15c : Nat) (pBSig16 : Int) {V : Value} {Q : World → Prop} {w : World} (h : forkcheck_Proof_apart.N pAWriter1 pAIndex2 pAPrev3 pAAtT4 pAAtW5 pAEpoch6 pABody7a pABody7n pABody7c pASig8 pBWriter9 pBIndex10 pBPrev11 pBAtT12 pBAtW13 pBEpoch14 pBBody15a pBBody15n pBBody15c pBSig16 (fun v w' => v = V ∧ Q w') w) : Calls Try.prog 55 #[.agg #[.int .i64 pAWriter1, .int .i64 pAIndex2, .int .u64 pAPrev3, .int .i64 pAAtT4, .int .i64 pAAtW5, .int .i64 pAEpoch6, .slice pABody7a pABody7n pABody7c, .int .u64 pASig8, .int .i64 pBWriter9, .int .i64 pBIndex10, .int .u64 pBPrev11, .int .i64 pBAtT12, .int .i64 pBAtW13, .int .i64 pBEpoch14, .slice pBBody15a pBBody15n pBBody15c, .int .u64 pBSig16]] w (Ret V Q) := (forkcheck_Proof_apart.go pAWriter1 pAIndex2 pAPrev3 pAAtT4 pAAtW5 pAEpoch6 pABody7a pABody7n pABody7c pASig8 pBWriter9 pBIndex10 pBPrev11 pBAtT12 pBAtW13 pBEpoch14 pBBody15a pBBody15n pBBody15c pBSig16 h).mono fun e w' ⟨v, he, hv, hq⟩ => ⟨by rw [he, hv], hq⟩

/-- forkcheck.Check -/
def forkcheck_Check.M (o1 : Option Addr) (publicv2 : Int) (pAWriter3 : Int) (pAIndex4 : Int) (pAPrev5 : Int) (pAAtT6 : Int) (pAAtW7 : Int) (pAEpoch8 : Int) (pABody9a : Option Addr) (pABody9n : Nat) (pABody9c : Nat) (pASig10 : Int) (pBWriter11 : Int) (pBIndex12 : Int) (pBPrev13 : Int) (pBAtT14 : Int) (pBAtW15 : Int) (pBEpoch16 : Int) (pBBody17a : Option Addr) (pBBody17n : Nat) (pBBody17c : Nat) (pBSig18 : Int) (R : Value → World → Prop) (w : World) : Prop :=
  thenW (w.alloc (.cells #[.int .i64 pAWriter3, .int .i64 pAIndex4, .int .u64 pAPrev5, .int .i64 pAAtT6, .int .i64 pAAtW7, .int .i64 pAEpoch8, .slice pABody9a pABody9n pABody9c, .int .u64 pASig10, .int .i64 pBWriter11, .int .i64 pBIndex12, .int .u64 pBPrev13, .int .i64 pBAtT14, .int .i64 pBAtW15, .int .i64 pBEpoch16, .slice pBBody17a pBBody17n pBBody17c, .int .u64 pBSig18] 48)) fun ww19 =>
  ∃ (xAWriter20 : Int) (xAIndex21 : Int) (xAPrev22 : Int) (xAAtT23 : Int) (xAAtW24 : Int) (xAEpoch25 : Int) (xABody26a : Option Addr) (xABody26n : Nat) (xABody26c : Nat) (xASig27 : Int) (xBWriter28 : Int) (xBIndex29 : Int) (xBPrev30 : Int) (xBAtT31 : Int) (xBAtW32 : Int) (xBEpoch33 : Int) (xBBody34a : Option Addr) (xBBody34n : Nat) (xBBody34c : Nat) (xBSig35 : Int), cellsAt ww19 (blk w.heap.size) [.int .i64 xAWriter20, .int .i64 xAIndex21, .int .u64 xAPrev22, .int .i64 xAAtT23, .int .i64 xAAtW24, .int .i64 xAEpoch25, .slice xABody26a xABody26n xABody26c, .int .u64 xASig27, .int .i64 xBWriter28, .int .i64 xBIndex29, .int .u64 xBPrev30, .int .i64 xBAtT31, .int .i64 xBAtW32, .int .i64 xBEpoch33, .slice xBBody34a xBBody34n xBBody34c, .int .u64 xBSig35] 0 ∧
  ∃ (xAWriter36 : Int) (xAIndex37 : Int) (xAPrev38 : Int) (xAAtT39 : Int) (xAAtW40 : Int) (xAEpoch41 : Int) (xABody42a : Option Addr) (xABody42n : Nat) (xABody42c : Nat) (xASig43 : Int) (xBWriter44 : Int) (xBIndex45 : Int) (xBPrev46 : Int) (xBAtT47 : Int) (xBAtW48 : Int) (xBEpoch49 : Int) (xBBody50a : Option Addr) (xBBody50n : Nat) (xBBody50c : Nat) (xBSig51 : Int), cellsAt ww19 (blk w.heap.size) [.int .i64 xAWriter36, .int .i64 xAIndex37, .int .u64 xAPrev38, .int .i64 xAAtT39, .int .i64 xAAtW40, .int .i64 xAEpoch41, .slice xABody42a xABody42n xABody42c, .int .u64 xASig43, .int .i64 xBWriter44, .int .i64 xBIndex45, .int .u64 xBPrev46, .int .i64 xBAtT47, .int .i64 xBAtW48, .int .i64 xBEpoch49, .slice xBBody50a xBBody50n xBBody50c, .int .u64 xBSig51] 0 ∧
  ∃ (xAWriter52 : Int) (xAIndex53 : Int) (xAPrev54 : Int) (xAAtT55 : Int) (xAAtW56 : Int) (xAEpoch57 : Int) (xABody58a : Option Addr) (xABody58n : Nat) (xABody58c : Nat) (xASig59 : Int) (xBWriter60 : Int) (xBIndex61 : Int) (xBPrev62 : Int) (xBAtT63 : Int) (xBAtW64 : Int) (xBEpoch65 : Int) (xBBody66a : Option Addr) (xBBody66n : Nat) (xBBody66c : Nat) (xBSig67 : Int), cellsAt ww19 (blk w.heap.size) [.int .i64 xAWriter52, .int .i64 xAIndex53, .int .u64 xAPrev54, .int .i64 xAAtT55, .int .i64 xAAtW56, .int .i64 xAEpoch57, .slice xABody58a xABody58n xABody58c, .int .u64 xASig59, .int .i64 xBWriter60, .int .i64 xBIndex61, .int .u64 xBPrev62, .int .i64 xBAtT63, .int .i64 xBAtW64, .int .i64 xBEpoch65, .slice xBBody66a xBBody66n xBBody66c, .int .u64 xBSig67] 0 ∧
  ∃ (xAWriter68 : Int) (xAIndex69 : Int) (xAPrev70 : Int) (xAAtT71 : Int) (xAAtW72 : Int) (xAEpoch73 : Int) (xABody74a : Option Addr) (xABody74n : Nat) (xABody74c : Nat) (xASig75 : Int) (xBWriter76 : Int) (xBIndex77 : Int) (xBPrev78 : Int) (xBAtT79 : Int) (xBAtW80 : Int) (xBEpoch81 : Int) (xBBody82a : Option Addr) (xBBody82n : Nat) (xBBody82c : Nat) (xBSig83 : Int), cellsAt ww19 (blk w.heap.size) [.int .i64 xAWriter68, .int .i64 xAIndex69, .int .u64 xAPrev70, .int .i64 xAAtT71, .int .i64 xAAtW72, .int .i64 xAEpoch73, .slice xABody74a xABody74n xABody74c, .int .u64 xASig75, .int .i64 xBWriter76, .int .i64 xBIndex77, .int .u64 xBPrev78, .int .i64 xBAtT79, .int .i64 xBAtW80, .int .i64 xBEpoch81, .slice xBBody82a xBBody82n xBBody82c, .int .u64 xBSig83] 0 ∧
  ∃ (I0 : Nat → List Value → World → Prop) (m85 : Nat), I0 m85 [.int .i64 0] ww19 ∧ ∀ (m86 : Nat) (ww87 : World) (t84 : Int), I0 m86 [.int .i64 t84] ww87 →
  bif decide (t84 < 4) then (
  0 ≤ (t84 : Int) ∧ (t84 : Int) < (4 : Int) ∧
  ((t84 : Int) = 0 → 
  Calls Try.prog 52 #[.agg #[.int .i64 xAWriter20, .int .i64 xAIndex21, .int .u64 xAPrev22, .int .i64 xAAtT23, .int .i64 xAAtW24, .int .i64 xAEpoch25, .slice xABody26a xABody26n xABody26c, .int .u64 xASig27, .int .i64 xBWriter28, .int .i64 xBIndex29, .int .u64 xBPrev30, .int .i64 xBAtT31, .int .i64 xBAtW32, .int .i64 xBEpoch33, .slice xBBody34a xBBody34n xBBody34c, .int .u64 xBSig35]] ww87 fun ee89 ww90 => ∃ (right88 : Int), ee89 = .returned (.int .i64 right88) ∧
  bif right88 != 0 then (
  R (.int .i64 right88) ww90) else (
  ∃ m91, m91 < m86 ∧ I0 m91 [.int .i64 (IntKind.i64.wrap (t84 + 1))] ww90)) ∧
  ((t84 : Int) = 1 → 
  Calls Try.prog 53 #[.agg #[.int .i64 xAWriter36, .int .i64 xAIndex37, .int .u64 xAPrev38, .int .i64 xAAtT39, .int .i64 xAAtW40, .int .i64 xAEpoch41, .slice xABody42a xABody42n xABody42c, .int .u64 xASig43, .int .i64 xBWriter44, .int .i64 xBIndex45, .int .u64 xBPrev46, .int .i64 xBAtT47, .int .i64 xBAtW48, .int .i64 xBEpoch49, .slice xBBody50a xBBody50n xBBody50c, .int .u64 xBSig51]] ww87 fun ee93 ww94 => ∃ (writers92 : Int), ee93 = .returned (.int .i64 writers92) ∧
  bif writers92 != 0 then (
  R (.int .i64 writers92) ww94) else (
  ∃ m95, m95 < m86 ∧ I0 m95 [.int .i64 (IntKind.i64.wrap (t84 + 1))] ww94)) ∧
  ((t84 : Int) = 2 → 
  Calls Try.prog 54 #[.agg #[.int .i64 xAWriter52, .int .i64 xAIndex53, .int .u64 xAPrev54, .int .i64 xAAtT55, .int .i64 xAAtW56, .int .i64 xAEpoch57, .slice xABody58a xABody58n xABody58c, .int .u64 xASig59, .int .i64 xBWriter60, .int .i64 xBIndex61, .int .u64 xBPrev62, .int .i64 xBAtT63, .int .i64 xBAtW64, .int .i64 xBEpoch65, .slice xBBody66a xBBody66n xBBody66c, .int .u64 xBSig67]] ww87 fun ee97 ww98 => ∃ (places96 : Int), ee97 = .returned (.int .i64 places96) ∧
  bif places96 != 0 then (
  R (.int .i64 places96) ww98) else (
  ∃ m99, m99 < m86 ∧ I0 m99 [.int .i64 (IntKind.i64.wrap (t84 + 1))] ww98)) ∧
  ((t84 : Int) = 3 → 
  Calls Try.prog 55 #[.agg #[.int .i64 xAWriter68, .int .i64 xAIndex69, .int .u64 xAPrev70, .int .i64 xAAtT71, .int .i64 xAAtW72, .int .i64 xAEpoch73, .slice xABody74a xABody74n xABody74c, .int .u64 xASig75, .int .i64 xBWriter76, .int .i64 xBIndex77, .int .u64 xBPrev78, .int .i64 xBAtT79, .int .i64 xBAtW80, .int .i64 xBEpoch81, .slice xBBody82a xBBody82n xBBody82c, .int .u64 xBSig83]] ww87 fun ee101 ww102 => ∃ (apart100 : Int), ee101 = .returned (.int .i64 apart100) ∧
  bif apart100 != 0 then (
  R (.int .i64 apart100) ww102) else (
  ∃ m103, m103 < m86 ∧ I0 m103 [.int .i64 (IntKind.i64.wrap (t84 + 1))] ww102)) ∧ True) else (
  ∃ (AWriter104 : Int) (AIndex105 : Int) (APrev106 : Int) (AAtT107 : Int) (AAtW108 : Int) (AEpoch109 : Int) (ABody110a : Option Addr) (ABody110n : Nat) (ABody110c : Nat) (ASig111 : Int), cellsAt ww87 ((blk w.heap.size).add 0) [.int .i64 AWriter104, .int .i64 AIndex105, .int .u64 APrev106, .int .i64 AAtT107, .int .i64 AAtW108, .int .i64 AEpoch109, .slice ABody110a ABody110n ABody110c, .int .u64 ASig111] 0 ∧
  Calls Try.prog 56 #[.pointer o1, .int .u64 publicv2, .agg #[.int .i64 AWriter104, .int .i64 AIndex105, .int .u64 APrev106, .int .i64 AAtT107, .int .i64 AAtW108, .int .i64 AEpoch109, .slice ABody110a ABody110n ABody110c, .int .u64 ASig111]] ww87 fun ee113 ww114 => ∃ (holds112 : Bool), ee113 = .returned (.bool holds112) ∧
  bif !holds112 then (
  R (.int .i64 6) ww114) else (
  ∃ (BWriter115 : Int) (BIndex116 : Int) (BPrev117 : Int) (BAtT118 : Int) (BAtW119 : Int) (BEpoch120 : Int) (BBody121a : Option Addr) (BBody121n : Nat) (BBody121c : Nat) (BSig122 : Int), cellsAt ww114 ((blk w.heap.size).add 8) [.int .i64 BWriter115, .int .i64 BIndex116, .int .u64 BPrev117, .int .i64 BAtT118, .int .i64 BAtW119, .int .i64 BEpoch120, .slice BBody121a BBody121n BBody121c, .int .u64 BSig122] 0 ∧
  Calls Try.prog 56 #[.pointer o1, .int .u64 publicv2, .agg #[.int .i64 BWriter115, .int .i64 BIndex116, .int .u64 BPrev117, .int .i64 BAtT118, .int .i64 BAtW119, .int .i64 BEpoch120, .slice BBody121a BBody121n BBody121c, .int .u64 BSig122]] ww114 fun ee124 ww125 => ∃ (holds123 : Bool), ee124 = .returned (.bool holds123) ∧
  bif !holds123 then (
  R (.int .i64 6) ww125) else (
  R (.int .i64 0) ww125)))

theorem forkcheck_Check.eq (o1 : Option Addr) (publicv2 : Int) (pAWriter3 : Int) (pAIndex4 : Int) (pAPrev5 : Int) (pAAtT6 : Int) (pAAtW7 : Int) (pAEpoch8 : Int) (pABody9a : Option Addr) (pABody9n : Nat) (pABody9c : Nat) (pASig10 : Int) (pBWriter11 : Int) (pBIndex12 : Int) (pBPrev13 : Int) (pBAtT14 : Int) (pBAtW15 : Int) (pBEpoch16 : Int) (pBBody17a : Option Addr) (pBBody17n : Nat) (pBBody17c : Nat) (pBSig18 : Int) (R : Value → World → Prop) (w : World) : mfunc Try.prog [(0, [0, 1, 5, 18], [(19, (.one (.int .i64)))])] 16 [.pointer o1, .int .u64 publicv2, .agg #[.int .i64 pAWriter3, .int .i64 pAIndex4, .int .u64 pAPrev5, .int .i64 pAAtT6, .int .i64 pAAtW7, .int .i64 pAEpoch8, .slice pABody9a pABody9n pABody9c, .int .u64 pASig10, .int .i64 pBWriter11, .int .i64 pBIndex12, .int .u64 pBPrev13, .int .i64 pBAtT14, .int .i64 pBAtW15, .int .i64 pBEpoch16, .slice pBBody17a pBBody17n pBBody17c, .int .u64 pBSig18]] R w = forkcheck_Check.M o1 publicv2 pAWriter3 pAIndex4 pAPrev5 pAAtT6 pAAtW7 pAEpoch8 pABody9a pABody9n pABody9c pASig10 pBWriter11 pBIndex12 pBPrev13 pBAtT14 pBAtW15 pBEpoch16 pBBody17a pBBody17n pBBody17c pBSig18 R w := by kernel_rfl
theorem forkcheck_Check.ok (o1 : Option Addr) (publicv2 : Int) (pAWriter3 : Int) (pAIndex4 : Int) (pAPrev5 : Int) (pAAtT6 : Int) (pAAtW7 : Int) (pAEpoch8 : Int) (pABody9a : Option Addr) (pABody9n : Nat) (pABody9c : Nat) (pASig10 : Int) (pBWriter11 : Int) (pBIndex12 : Int) (pBPrev13 : Int) (pBAtT14 : Int) (pBAtW15 : Int) (pBEpoch16 : Int) (pBBody17a : Option Addr) (pBBody17n : Nat) (pBBody17c : Nat) (pBSig18 : Int) {R : Value → World → Prop} {w : World} (h : forkcheck_Check.M o1 publicv2 pAWriter3 pAIndex4 pAPrev5 pAAtT6 pAAtW7 pAEpoch8 pABody9a pABody9n pABody9c pASig10 pBWriter11 pBIndex12 pBPrev13 pBAtT14 pBAtW15 pBEpoch16 pBBody17a pBBody17n pBBody17c pBSig18 R w) : Calls Try.prog 16 #[.pointer o1, .int .u64 publicv2, .agg #[.int .i64 pAWriter3, .int .i64 pAIndex4, .int .u64 pAPrev5, .int .i64 pAAtT6, .int .i64 pAAtW7, .int .i64 pAEpoch8, .slice pABody9a pABody9n pABody9c, .int .u64 pASig10, .int .i64 pBWriter11, .int .i64 pBIndex12, .int .u64 pBPrev13, .int .i64 pBAtT14, .int .i64 pBAtW15, .int .i64 pBEpoch16, .slice pBBody17a pBBody17n pBBody17c, .int .u64 pBSig18]] w fun e w' => ∃ v, e = .returned v ∧ R v w' :=
  mfunc_ok follows (H := [(0, [0, 1, 5, 18], [(19, (.one (.int .i64)))])]) (args := [.pointer o1, .int .u64 publicv2, .agg #[.int .i64 pAWriter3, .int .i64 pAIndex4, .int .u64 pAPrev5, .int .i64 pAAtT6, .int .i64 pAAtW7, .int .i64 pAEpoch8, .slice pABody9a pABody9n pABody9c, .int .u64 pASig10, .int .i64 pBWriter11, .int .i64 pBIndex12, .int .u64 pBPrev13, .int .i64 pBAtT14, .int .i64 pBAtW15, .int .i64 pBEpoch16, .slice pBBody17a pBBody17n pBBody17c, .int .u64 pBSig18]]) (by rw [forkcheck_Check.eq]; exact h)

def forkcheck_Check.N (o1 : Option Addr) (publicv2 : Int) (pAWriter3 : Int) (pAIndex4 : Int) (pAPrev5 : Int) (pAAtT6 : Int) (pAAtW7 : Int) (pAEpoch8 : Int) (pABody9a : Option Addr) (pABody9n : Nat) (pABody9c : Nat) (pASig10 : Int) (pBWriter11 : Int) (pBIndex12 : Int) (pBPrev13 : Int) (pBAtT14 : Int) (pBAtW15 : Int) (pBEpoch16 : Int) (pBBody17a : Option Addr) (pBBody17n : Nat) (pBBody17c : Nat) (pBSig18 : Int) (R : Value → World → Prop) (w : World) : Prop :=
  ∀ (ww19 : World) (p20 : Nat), Ext no w ww19 → Priv w ww19 [p20] →
  ∃ (I0 : Nat → List Value → World → Prop) (m22 : Nat), I0 m22 [.int .i64 0] ww19 ∧ ∀ (m23 : Nat) (ww24 : World) (t21 : Int), I0 m23 [.int .i64 t21] ww24 →
  (t21 < 4 →
    0 ≤ (t21 : Int) ∧ (t21 : Int) < (4 : Int) ∧
    ((t21 : Int) = 0 →
      ((forkcheck_Proof_right.F pAWriter3 pAIndex4 pAPrev5 pAAtT6 pAAtW7 pAEpoch8 pABody9a pABody9n pABody9c pASig10 pBWriter11 pBIndex12 pBPrev13 pBAtT14 pBAtW15 pBEpoch16 pBBody17a pBBody17n pBBody17c pBSig18) ≠ 0 →
        ∀ (ww26 : World), Ext no ww24 ww26 →
        R (.int .i64 (forkcheck_Proof_right.F pAWriter3 pAIndex4 pAPrev5 pAAtT6 pAAtW7 pAEpoch8 pABody9a pABody9n pABody9c pASig10 pBWriter11 pBIndex12 pBPrev13 pBAtT14 pBAtW15 pBEpoch16 pBBody17a pBBody17n pBBody17c pBSig18)) ww26) ∧
      ((forkcheck_Proof_right.F pAWriter3 pAIndex4 pAPrev5 pAAtT6 pAAtW7 pAEpoch8 pABody9a pABody9n pABody9c pASig10 pBWriter11 pBIndex12 pBPrev13 pBAtT14 pBAtW15 pBEpoch16 pBBody17a pBBody17n pBBody17c pBSig18) = 0 →
        (-9223372036854775808 : Int) ≤ (t21 + 1) ∧ (t21 + 1) < 9223372036854775808 ∧
        ∀ (ww26 : World), Ext no ww24 ww26 →
        ∃ m28, m28 < m23 ∧ I0 m28 [.int .i64 (t21 + 1)] ww26)) ∧
    ((t21 : Int) = 1 →
      ((forkcheck_Proof_writers.F pAWriter3 pAIndex4 pAPrev5 pAAtT6 pAAtW7 pAEpoch8 pABody9a pABody9n pABody9c pASig10 pBWriter11 pBIndex12 pBPrev13 pBAtT14 pBAtW15 pBEpoch16 pBBody17a pBBody17n pBBody17c pBSig18) ≠ 0 →
        ∀ (ww29 : World), Ext no ww24 ww29 →
        R (.int .i64 (forkcheck_Proof_writers.F pAWriter3 pAIndex4 pAPrev5 pAAtT6 pAAtW7 pAEpoch8 pABody9a pABody9n pABody9c pASig10 pBWriter11 pBIndex12 pBPrev13 pBAtT14 pBAtW15 pBEpoch16 pBBody17a pBBody17n pBBody17c pBSig18)) ww29) ∧
      ((forkcheck_Proof_writers.F pAWriter3 pAIndex4 pAPrev5 pAAtT6 pAAtW7 pAEpoch8 pABody9a pABody9n pABody9c pASig10 pBWriter11 pBIndex12 pBPrev13 pBAtT14 pBAtW15 pBEpoch16 pBBody17a pBBody17n pBBody17c pBSig18) = 0 →
        (-9223372036854775808 : Int) ≤ (t21 + 1) ∧ (t21 + 1) < 9223372036854775808 ∧
        ∀ (ww29 : World), Ext no ww24 ww29 →
        ∃ m31, m31 < m23 ∧ I0 m31 [.int .i64 (t21 + 1)] ww29)) ∧
    ((t21 : Int) = 2 →
      ((forkcheck_Proof_places.F pAWriter3 pAIndex4 pAPrev5 pAAtT6 pAAtW7 pAEpoch8 pABody9a pABody9n pABody9c pASig10 pBWriter11 pBIndex12 pBPrev13 pBAtT14 pBAtW15 pBEpoch16 pBBody17a pBBody17n pBBody17c pBSig18) ≠ 0 →
        ∀ (ww32 : World), Ext no ww24 ww32 →
        R (.int .i64 (forkcheck_Proof_places.F pAWriter3 pAIndex4 pAPrev5 pAAtT6 pAAtW7 pAEpoch8 pABody9a pABody9n pABody9c pASig10 pBWriter11 pBIndex12 pBPrev13 pBAtT14 pBAtW15 pBEpoch16 pBBody17a pBBody17n pBBody17c pBSig18)) ww32) ∧
      ((forkcheck_Proof_places.F pAWriter3 pAIndex4 pAPrev5 pAAtT6 pAAtW7 pAEpoch8 pABody9a pABody9n pABody9c pASig10 pBWriter11 pBIndex12 pBPrev13 pBAtT14 pBAtW15 pBEpoch16 pBBody17a pBBody17n pBBody17c pBSig18) = 0 →
        (-9223372036854775808 : Int) ≤ (t21 + 1) ∧ (t21 + 1) < 9223372036854775808 ∧
        ∀ (ww32 : World), Ext no ww24 ww32 →
        ∃ m34, m34 < m23 ∧ I0 m34 [.int .i64 (t21 + 1)] ww32)) ∧
    ((t21 : Int) = 3 →
      Calls Try.prog 55 #[.agg #[.int .i64 pAWriter3, .int .i64 pAIndex4, .int .u64 pAPrev5, .int .i64 pAAtT6, .int .i64 pAAtW7, .int .i64 pAEpoch8, .slice pABody9a pABody9n pABody9c, .int .u64 pASig10, .int .i64 pBWriter11, .int .i64 pBIndex12, .int .u64 pBPrev13, .int .i64 pBAtT14, .int .i64 pBAtW15, .int .i64 pBEpoch16, .slice pBBody17a pBBody17n pBBody17c, .int .u64 pBSig18]] ww24 fun ee36 ww37 => ∃ (apart35 : Int), ee36 = .returned (.int .i64 apart35) ∧
      Keep [p20] ww24 ww37 ∧
      (apart35 ≠ 0 →
        R (.int .i64 apart35) ww37) ∧
      (apart35 = 0 →
        (-9223372036854775808 : Int) ≤ (t21 + 1) ∧ (t21 + 1) < 9223372036854775808 ∧
        ∃ m39, m39 < m23 ∧ I0 m39 [.int .i64 (t21 + 1)] ww37))) ∧
  ((4 : Int) ≤ t21 →
    Calls Try.prog 56 #[.pointer o1, .int .u64 publicv2, .agg #[.int .i64 pAWriter3, .int .i64 pAIndex4, .int .u64 pAPrev5, .int .i64 pAAtT6, .int .i64 pAAtW7, .int .i64 pAEpoch8, .slice pABody9a pABody9n pABody9c, .int .u64 pASig10]] ww24 fun ee41 ww42 => ∃ (holds40 : Bool), ee41 = .returned (.bool holds40) ∧
    Keep [p20] ww24 ww42 ∧
    (holds40 = false →
      R (.int .i64 6) ww42) ∧
    (holds40 = true →
      Calls Try.prog 56 #[.pointer o1, .int .u64 publicv2, .agg #[.int .i64 pBWriter11, .int .i64 pBIndex12, .int .u64 pBPrev13, .int .i64 pBAtT14, .int .i64 pBAtW15, .int .i64 pBEpoch16, .slice pBBody17a pBBody17n pBBody17c, .int .u64 pBSig18]] ww42 fun ee45 ww46 => ∃ (holds44 : Bool), ee45 = .returned (.bool holds44) ∧
      (holds44 = false →
        R (.int .i64 6) ww46) ∧
      (holds44 = true →
        R (.int .i64 0) ww46)))

theorem forkcheck_Check.up (o1 : Option Addr) (publicv2 : Int) (pAWriter3 : Int) (pAIndex4 : Int) (pAPrev5 : Int) (pAAtT6 : Int) (pAAtW7 : Int) (pAEpoch8 : Int) (pABody9a : Option Addr) (pABody9n : Nat) (pABody9c : Nat) (pASig10 : Int) (pBWriter11 : Int) (pBIndex12 : Int) (pBPrev13 : Int) (pBAtT14 : Int) (pBAtW15 : Int) (pBEpoch16 : Int) (pBBody17a : Option Addr) (pBBody17n : Nat) (pBBody17c : Nat) (pBSig18 : Int) {R : Value → World → Prop} {w : World} (h : forkcheck_Check.N o1 publicv2 pAWriter3 pAIndex4 pAPrev5 pAAtT6 pAAtW7 pAEpoch8 pABody9a pABody9n pABody9c pASig10 pBWriter11 pBIndex12 pBPrev13 pBAtT14 pBAtW15 pBEpoch16 pBBody17a pBBody17n pBBody17c pBSig18 R w) : forkcheck_Check.M o1 publicv2 pAWriter3 pAIndex4 pAPrev5 pAAtT6 pAAtW7 pAEpoch8 pABody9a pABody9n pABody9c pASig10 pBWriter11 pBIndex12 pBPrev13 pBAtT14 pBAtW15 pBEpoch16 pBBody17a pBBody17n pBBody17c pBSig18 R w := by
  unfold forkcheck_Check.M
  unfold forkcheck_Check.N at h
  refine thenW_in fun ww19 e19 => ?_
  have hb1 := Blk.of_new e19
  have hg1 := ((Ext.refl no w)).size
  have hx19 := (Ext.refl no w).x_alloc e19
  refine ⟨pAWriter3, pAIndex4, pAPrev5, pAAtT6, pAAtW7, pAEpoch8, pABody9a, pABody9n, pABody9c, pASig10, pBWriter11, pBIndex12, pBPrev13, pBAtT14, pBAtW15, pBEpoch16, pBBody17a, pBBody17n, pBBody17c, pBSig18, ⟨hb1.celli 0 rfl rfl, hb1.celli 1 rfl rfl, hb1.celli 2 rfl rfl, hb1.celli 3 rfl rfl, hb1.celli 4 rfl rfl, hb1.celli 5 rfl rfl, hb1.celli 6 rfl rfl, hb1.celli 7 rfl rfl, hb1.celli 8 rfl rfl, hb1.celli 9 rfl rfl, hb1.celli 10 rfl rfl, hb1.celli 11 rfl rfl, hb1.celli 12 rfl rfl, hb1.celli 13 rfl rfl, hb1.celli 14 rfl rfl, hb1.celli 15 rfl rfl, trivial⟩, ?_⟩
  refine ⟨pAWriter3, pAIndex4, pAPrev5, pAAtT6, pAAtW7, pAEpoch8, pABody9a, pABody9n, pABody9c, pASig10, pBWriter11, pBIndex12, pBPrev13, pBAtT14, pBAtW15, pBEpoch16, pBBody17a, pBBody17n, pBBody17c, pBSig18, ⟨hb1.celli 0 rfl rfl, hb1.celli 1 rfl rfl, hb1.celli 2 rfl rfl, hb1.celli 3 rfl rfl, hb1.celli 4 rfl rfl, hb1.celli 5 rfl rfl, hb1.celli 6 rfl rfl, hb1.celli 7 rfl rfl, hb1.celli 8 rfl rfl, hb1.celli 9 rfl rfl, hb1.celli 10 rfl rfl, hb1.celli 11 rfl rfl, hb1.celli 12 rfl rfl, hb1.celli 13 rfl rfl, hb1.celli 14 rfl rfl, hb1.celli 15 rfl rfl, trivial⟩, ?_⟩
  refine ⟨pAWriter3, pAIndex4, pAPrev5, pAAtT6, pAAtW7, pAEpoch8, pABody9a, pABody9n, pABody9c, pASig10, pBWriter11, pBIndex12, pBPrev13, pBAtT14, pBAtW15, pBEpoch16, pBBody17a, pBBody17n, pBBody17c, pBSig18, ⟨hb1.celli 0 rfl rfl, hb1.celli 1 rfl rfl, hb1.celli 2 rfl rfl, hb1.celli 3 rfl rfl, hb1.celli 4 rfl rfl, hb1.celli 5 rfl rfl, hb1.celli 6 rfl rfl, hb1.celli 7 rfl rfl, hb1.celli 8 rfl rfl, hb1.celli 9 rfl rfl, hb1.celli 10 rfl rfl, hb1.celli 11 rfl rfl, hb1.celli 12 rfl rfl, hb1.celli 13 rfl rfl, hb1.celli 14 rfl rfl, hb1.celli 15 rfl rfl, trivial⟩, ?_⟩
  refine ⟨pAWriter3, pAIndex4, pAPrev5, pAAtT6, pAAtW7, pAEpoch8, pABody9a, pABody9n, pABody9c, pASig10, pBWriter11, pBIndex12, pBPrev13, pBAtT14, pBAtW15, pBEpoch16, pBBody17a, pBBody17n, pBBody17c, pBSig18, ⟨hb1.celli 0 rfl rfl, hb1.celli 1 rfl rfl, hb1.celli 2 rfl rfl, hb1.celli 3 rfl rfl, hb1.celli 4 rfl rfl, hb1.celli 5 rfl rfl, hb1.celli 6 rfl rfl, hb1.celli 7 rfl rfl, hb1.celli 8 rfl rfl, hb1.celli 9 rfl rfl, hb1.celli 10 rfl rfl, hb1.celli 11 rfl rfl, hb1.celli 12 rfl rfl, hb1.celli 13 rfl rfl, hb1.celli 14 rfl rfl, hb1.celli 15 rfl rfl, trivial⟩, ?_⟩
  have h := h ww19 (w.heap.size) hx19 (Priv.cons hg1 hb1.lt Priv.nil)
  obtain ⟨I0, m22, h0, h⟩ := h
  refine ⟨fun k vs ww => Blk ww w.heap.size 48 [.int .i64 pAWriter3, .int .i64 pAIndex4, .int .u64 pAPrev5, .int .i64 pAAtT6, .int .i64 pAAtW7, .int .i64 pAEpoch8, .slice pABody9a pABody9n pABody9c, .int .u64 pASig10, .int .i64 pBWriter11, .int .i64 pBIndex12, .int .u64 pBPrev13, .int .i64 pBAtT14, .int .i64 pBAtW15, .int .i64 pBEpoch16, .slice pBBody17a pBBody17n pBBody17c, .int .u64 pBSig18] ∧ I0 k vs ww, m22, ⟨hb1, h0⟩, fun m23 ww24 t21 hI => ?_⟩
  obtain ⟨hb1, hI⟩ := hI
  have h := h m23 ww24 t21 hI
  refine bif_of (fun c25 => ?_) (fun c25 => ?_)
  · have h := h.1 (of_decide_eq_true c25)
    obtain ⟨hq1, hq2, h⟩ := h
    refine ⟨hq1, hq2, ?_⟩
    refine ⟨fun hk => ?_, fun hk => ?_, fun hk => ?_, fun hk => ?_, trivial⟩
    · have h := h.1 hk
      refine (forkcheck_Proof_right.pure pAWriter3 pAIndex4 pAPrev5 pAAtT6 pAAtW7 pAEpoch8 pABody9a pABody9n pABody9c pASig10 pBWriter11 pBIndex12 pBPrev13 pBAtT14 pBAtW15 pBEpoch16 pBBody17a pBBody17n pBBody17c pBSig18).mono fun ee ww26 ⟨he, hxx⟩ => ⟨(forkcheck_Proof_right.F pAWriter3 pAIndex4 pAPrev5 pAAtT6 pAAtW7 pAEpoch8 pABody9a pABody9n pABody9c pASig10 pBWriter11 pBIndex12 pBPrev13 pBAtT14 pBAtW15 pBEpoch16 pBBody17a pBBody17n pBBody17c pBSig18), he, ?_⟩
      have hx26 := (Ext.refl no ww24).trans hxx
      have hb1 := hb1.ext hxx id
      refine bif_of (fun c27 => ?_) (fun c27 => ?_)
      · have h := h.1 (bne_t c27)
        have h := h ww26 hx26
        exact h
      · have h := h.2 (bne_f c27)
        obtain ⟨hw1, hw2, h⟩ := h
        try rw [w64 hw1 hw2]
        have h := h ww26 hx26
        obtain ⟨m28, hk, h⟩ := h
        exact ⟨m28, hk, hb1, h⟩
    · have h := h.2.1 hk
      refine (forkcheck_Proof_writers.pure pAWriter3 pAIndex4 pAPrev5 pAAtT6 pAAtW7 pAEpoch8 pABody9a pABody9n pABody9c pASig10 pBWriter11 pBIndex12 pBPrev13 pBAtT14 pBAtW15 pBEpoch16 pBBody17a pBBody17n pBBody17c pBSig18).mono fun ee ww29 ⟨he, hxx⟩ => ⟨(forkcheck_Proof_writers.F pAWriter3 pAIndex4 pAPrev5 pAAtT6 pAAtW7 pAEpoch8 pABody9a pABody9n pABody9c pASig10 pBWriter11 pBIndex12 pBPrev13 pBAtT14 pBAtW15 pBEpoch16 pBBody17a pBBody17n pBBody17c pBSig18), he, ?_⟩
      have hx29 := (Ext.refl no ww24).trans hxx
      have hb1 := hb1.ext hxx id
      refine bif_of (fun c30 => ?_) (fun c30 => ?_)
      · have h := h.1 (bne_t c30)
        have h := h ww29 hx29
        exact h
      · have h := h.2 (bne_f c30)
        obtain ⟨hw1, hw2, h⟩ := h
        try rw [w64 hw1 hw2]
        have h := h ww29 hx29
        obtain ⟨m31, hk, h⟩ := h
        exact ⟨m31, hk, hb1, h⟩
    · have h := h.2.2.1 hk
      refine (forkcheck_Proof_places.pure pAWriter3 pAIndex4 pAPrev5 pAAtT6 pAAtW7 pAEpoch8 pABody9a pABody9n pABody9c pASig10 pBWriter11 pBIndex12 pBPrev13 pBAtT14 pBAtW15 pBEpoch16 pBBody17a pBBody17n pBBody17c pBSig18).mono fun ee ww32 ⟨he, hxx⟩ => ⟨(forkcheck_Proof_places.F pAWriter3 pAIndex4 pAPrev5 pAAtT6 pAAtW7 pAEpoch8 pABody9a pABody9n pABody9c pASig10 pBWriter11 pBIndex12 pBPrev13 pBAtT14 pBAtW15 pBEpoch16 pBBody17a pBBody17n pBBody17c pBSig18), he, ?_⟩
      have hx32 := (Ext.refl no ww24).trans hxx
      have hb1 := hb1.ext hxx id
      refine bif_of (fun c33 => ?_) (fun c33 => ?_)
      · have h := h.1 (bne_t c33)
        have h := h ww32 hx32
        exact h
      · have h := h.2 (bne_f c33)
        obtain ⟨hw1, hw2, h⟩ := h
        try rw [w64 hw1 hw2]
        have h := h ww32 hx32
        obtain ⟨m34, hk, h⟩ := h
        exact ⟨m34, hk, hb1, h⟩
    · have h := h.2.2.2 hk
      refine h.mono fun ee36 ww37 h => ?_
      obtain ⟨apart35, he, hk, h⟩ := h
      refine ⟨apart35, he, ?_⟩
      have hb1 := hk.blk hb1 (by simp)
      refine bif_of (fun c38 => ?_) (fun c38 => ?_)
      · have h := h.1 (bne_t c38)
        exact h
      · have h := h.2 (bne_f c38)
        obtain ⟨hw1, hw2, h⟩ := h
        try rw [w64 hw1 hw2]
        obtain ⟨m39, hk, h⟩ := h
        exact ⟨m39, hk, hb1, h⟩
  · have h := h.2 (Int.not_lt.1 (of_decide_eq_false c25))
    refine ⟨pAWriter3, pAIndex4, pAPrev5, pAAtT6, pAAtW7, pAEpoch8, pABody9a, pABody9n, pABody9c, pASig10, ⟨hb1.celli 0 rfl rfl, hb1.celli 1 rfl rfl, hb1.celli 2 rfl rfl, hb1.celli 3 rfl rfl, hb1.celli 4 rfl rfl, hb1.celli 5 rfl rfl, hb1.celli 6 rfl rfl, hb1.celli 7 rfl rfl, trivial⟩, ?_⟩
    refine h.mono fun ee41 ww42 h => ?_
    obtain ⟨holds40, he, hk, h⟩ := h
    refine ⟨holds40, he, ?_⟩
    have hb1 := hk.blk hb1 (by simp)
    refine bif_of (fun c43 => ?_) (fun c43 => ?_)
    · have h := h.1 (not_t c43)
      exact h
    · have h := h.2 (not_f c43)
      refine ⟨pBWriter11, pBIndex12, pBPrev13, pBAtT14, pBAtW15, pBEpoch16, pBBody17a, pBBody17n, pBBody17c, pBSig18, ⟨hb1.celli 8 rfl rfl, hb1.celli 9 rfl rfl, hb1.celli 10 rfl rfl, hb1.celli 11 rfl rfl, hb1.celli 12 rfl rfl, hb1.celli 13 rfl rfl, hb1.celli 14 rfl rfl, hb1.celli 15 rfl rfl, trivial⟩, ?_⟩
      refine h.mono fun ee45 ww46 h => ?_
      obtain ⟨holds44, he, h⟩ := h
      refine ⟨holds44, he, ?_⟩
      refine bif_of (fun c47 => ?_) (fun c47 => ?_)
      · have h := h.1 (not_t c47)
        exact h
      · have h := h.2 (not_f c47)
        exact h

theorem forkcheck_Check.go (o1 : Option Addr) (publicv2 : Int) (pAWriter3 : Int) (pAIndex4 : Int) (pAPrev5 : Int) (pAAtT6 : Int) (pAAtW7 : Int) (pAEpoch8 : Int) (pABody9a : Option Addr) (pABody9n : Nat) (pABody9c : Nat) (pASig10 : Int) (pBWriter11 : Int) (pBIndex12 : Int) (pBPrev13 : Int) (pBAtT14 : Int) (pBAtW15 : Int) (pBEpoch16 : Int) (pBBody17a : Option Addr) (pBBody17n : Nat) (pBBody17c : Nat) (pBSig18 : Int) {R : Value → World → Prop} {w : World} (h : forkcheck_Check.N o1 publicv2 pAWriter3 pAIndex4 pAPrev5 pAAtT6 pAAtW7 pAEpoch8 pABody9a pABody9n pABody9c pASig10 pBWriter11 pBIndex12 pBPrev13 pBAtT14 pBAtW15 pBEpoch16 pBBody17a pBBody17n pBBody17c pBSig18 R w) : Calls Try.prog 16 #[.pointer o1, .int .u64 publicv2, .agg #[.int .i64 pAWriter3, .int .i64 pAIndex4, .int .u64 pAPrev5, .int .i64 pAAtT6, .int .i64 pAAtW7, .int .i64 pAEpoch8, .slice pABody9a pABody9n pABody9c, .int .u64 pASig10, .int .i64 pBWriter11, .int .i64 pBIndex12, .int .u64 pBPrev13, .int .i64 pBAtT14, .int .i64 pBAtW15, .int .i64 pBEpoch16, .slice pBBody17a pBBody17n pBBody17c, .int .u64 pBSig18]] w fun e w' => ∃ v, e = .returned v ∧ R v w' := forkcheck_Check.ok o1 publicv2 pAWriter3 pAIndex4 pAPrev5 pAAtT6 pAAtW7 pAEpoch8 pABody9a pABody9n pABody9c pASig10 pBWriter11 pBIndex12 pBPrev13 pBAtT14 pBAtW15 pBEpoch16 pBBody17a pBBody17n pBBody17c pBSig18 (forkcheck_Check.up o1 publicv2 pAWriter3 pAIndex4 pAPrev5 pAAtT6 pAAtW7 pAEpoch8 pABody9a pABody9n pABody9c pASig10 pBWriter11 pBIndex12 pBPrev13 pBAtT14 pBAtW15 pBEpoch16 pBBody17a pBBody17n pBBody17c pBSig18 h)
theorem forkcheck_Check.run (o1 : Option Addr) (publicv2 : Int) (pAWriter3 : Int) (pAIndex4 : Int) (pAPrev5 : Int) (pAAtT6 : Int) (pAAtW7 : Int) (pAEpoch8 : Int) (pABody9a : Option Addr) (pABody9n : Nat) (pABody9c : Nat) (pASig10 : Int) (pBWriter11 : Int) (pBIndex12 : Int) (pBPrev13 : Int) (pBAtT14 : Int) (pBAtW15 : Int) (pBEpoch16 : Int) (pBBody17a : Option Addr) (pBBody17n : Nat) (pBBody17c : Nat) (pBSig18 : Int) {V : Value} {Q : World → Prop} {w : World} (h : forkcheck_Check.N o1 publicv2 pAWriter3 pAIndex4 pAPrev5 pAAtT6 pAAtW7 pAEpoch8 pABody9a pABody9n pABody9c pASig10 pBWriter11 pBIndex12 pBPrev13 pBAtT14 pBAtW15 pBEpoch16 pBBody17a pBBody17n pBBody17c pBSig18 (fun v w' => v = V ∧ Q w') w) : Calls Try.prog 16 #[.pointer o1, .int .u64 publicv2, .agg #[.int .i64 pAWriter3, .int .i64 pAIndex4, .int .u64 pAPrev5, .int .i64 pAAtT6, .int .i64 pAAtW7, .int .i64 pAEpoch8, .slice pABody9a pABody9n pABody9c, .int .u64 pASig10, .int .i64 pBWriter11, .int .i64 pBIndex12, .int .u64 pBPrev13, .int .i64 pBAtT14, .int .i64 pBAtW15, .int .i64 pBEpoch16, .slice pBBody17a pBBody17n pBBody17c, .int .u64 pBSig18]] w (Ret V Q) := (forkcheck_Check.go o1 publicv2 pAWriter3 pAIndex4 pAPrev5 pAAtT6 pAAtW7 pAEpoch8 pABody9a pABody9n pABody9c pASig10 pBWriter11 pBIndex12 pBPrev13 pBAtT14 pBAtW15 pBEpoch16 pBBody17a pBBody17n pBBody17c pBSig18 h).mono fun e w' ⟨v, he, hv, hq⟩ => ⟨by rw [he, hv], hq⟩

/-- cachetteref23.Check -/
def cachetteref23_Check.M (o1 : Option Addr) (publicv2 : Int) (pAWriter3 : Int) (pAIndex4 : Int) (pAPrev5 : Int) (pAAtT6 : Int) (pAAtW7 : Int) (pAEpoch8 : Int) (pABody9a : Option Addr) (pABody9n : Nat) (pABody9c : Nat) (pASig10 : Int) (pBWriter11 : Int) (pBIndex12 : Int) (pBPrev13 : Int) (pBAtT14 : Int) (pBAtW15 : Int) (pBEpoch16 : Int) (pBBody17a : Option Addr) (pBBody17n : Nat) (pBBody17c : Nat) (pBSig18 : Int) (R : Value → World → Prop) (w : World) : Prop :=
  thenW (w.alloc (.cells #[.int .i64 pAWriter3, .int .i64 pAIndex4, .int .u64 pAPrev5, .int .i64 pAAtT6, .int .i64 pAAtW7, .int .i64 pAEpoch8, .slice pABody9a pABody9n pABody9c, .int .u64 pASig10, .int .i64 pBWriter11, .int .i64 pBIndex12, .int .u64 pBPrev13, .int .i64 pBAtT14, .int .i64 pBAtW15, .int .i64 pBEpoch16, .slice pBBody17a pBBody17n pBBody17c, .int .u64 pBSig18] 50)) fun ww19 =>
  ∃ (AWriter20 : Int) (AIndex21 : Int) (APrev22 : Int) (AAtT23 : Int) (AAtW24 : Int) (AEpoch25 : Int) (ABody26a : Option Addr) (ABody26n : Nat) (ABody26c : Nat) (ASig27 : Int), cellsAt ww19 ((blk w.heap.size).add 0) [.int .i64 AWriter20, .int .i64 AIndex21, .int .u64 APrev22, .int .i64 AAtT23, .int .i64 AAtW24, .int .i64 AEpoch25, .slice ABody26a ABody26n ABody26c, .int .u64 ASig27] 0 ∧
  Calls Try.prog 57 #[.agg #[.int .i64 AWriter20, .int .i64 AIndex21, .int .u64 APrev22, .int .i64 AAtT23, .int .i64 AAtW24, .int .i64 AEpoch25, .slice ABody26a ABody26n ABody26c, .int .u64 ASig27]] ww19 fun ee29 ww30 => ∃ (right28 : Bool), ee29 = .returned (.bool right28) ∧
  bif !right28 then (
  R (.int .i64 1) ww30) else (
  ∃ (BWriter31 : Int) (BIndex32 : Int) (BPrev33 : Int) (BAtT34 : Int) (BAtW35 : Int) (BEpoch36 : Int) (BBody37a : Option Addr) (BBody37n : Nat) (BBody37c : Nat) (BSig38 : Int), cellsAt ww30 ((blk w.heap.size).add 8) [.int .i64 BWriter31, .int .i64 BIndex32, .int .u64 BPrev33, .int .i64 BAtT34, .int .i64 BAtW35, .int .i64 BEpoch36, .slice BBody37a BBody37n BBody37c, .int .u64 BSig38] 0 ∧
  Calls Try.prog 57 #[.agg #[.int .i64 BWriter31, .int .i64 BIndex32, .int .u64 BPrev33, .int .i64 BAtT34, .int .i64 BAtW35, .int .i64 BEpoch36, .slice BBody37a BBody37n BBody37c, .int .u64 BSig38]] ww30 fun ee40 ww41 => ∃ (right39 : Bool), ee40 = .returned (.bool right39) ∧
  bif !right39 then (
  R (.int .i64 1) ww41) else (
  ∃ (Writer42 : Int), ww41.cell? (((blk w.heap.size).add 0).add 0) = some (.int .i64 Writer42) ∧
  ∃ (Writer43 : Int), ww41.cell? (((blk w.heap.size).add 8).add 0) = some (.int .i64 Writer43) ∧
  bif Writer42 != Writer43 then (
  R (.int .i64 20) ww41) else (
  ∃ (Index44 : Int), ww41.cell? (((blk w.heap.size).add 0).add 1) = some (.int .i64 Index44) ∧
  ∃ (Index45 : Int), ww41.cell? (((blk w.heap.size).add 8).add 1) = some (.int .i64 Index45) ∧
  bif Index44 != Index45 then (
  R (.int .i64 2) ww41) else (
  ∃ (AWriter46 : Int) (AIndex47 : Int) (APrev48 : Int) (AAtT49 : Int) (AAtW50 : Int) (AEpoch51 : Int) (ABody52a : Option Addr) (ABody52n : Nat) (ABody52c : Nat) (ASig53 : Int), cellsAt ww41 ((blk w.heap.size).add 0) [.int .i64 AWriter46, .int .i64 AIndex47, .int .u64 APrev48, .int .i64 AAtT49, .int .i64 AAtW50, .int .i64 AEpoch51, .slice ABody52a ABody52n ABody52c, .int .u64 ASig53] 0 ∧
  ∃ (BWriter54 : Int) (BIndex55 : Int) (BPrev56 : Int) (BAtT57 : Int) (BAtW58 : Int) (BEpoch59 : Int) (BBody60a : Option Addr) (BBody60n : Nat) (BBody60c : Nat) (BSig61 : Int), cellsAt ww41 ((blk w.heap.size).add 8) [.int .i64 BWriter54, .int .i64 BIndex55, .int .u64 BPrev56, .int .i64 BAtT57, .int .i64 BAtW58, .int .i64 BEpoch59, .slice BBody60a BBody60n BBody60c, .int .u64 BSig61] 0 ∧
  Calls Try.prog 15 #[.agg #[.int .i64 AWriter46, .int .i64 AIndex47, .int .u64 APrev48, .int .i64 AAtT49, .int .i64 AAtW50, .int .i64 AEpoch51, .slice ABody52a ABody52n ABody52c, .int .u64 ASig53], .agg #[.int .i64 BWriter54, .int .i64 BIndex55, .int .u64 BPrev56, .int .i64 BAtT57, .int .i64 BAtW58, .int .i64 BEpoch59, .slice BBody60a BBody60n BBody60c, .int .u64 BSig61]] ww41 fun ee63 ww64 => ∃ (same62 : Bool), ee63 = .returned (.bool same62) ∧
  bif same62 then (
  R (.int .i64 8) ww64) else (
  ∃ (AWriter65 : Int) (AIndex66 : Int) (APrev67 : Int) (AAtT68 : Int) (AAtW69 : Int) (AEpoch70 : Int) (ABody71a : Option Addr) (ABody71n : Nat) (ABody71c : Nat) (ASig72 : Int), cellsAt ww64 ((blk w.heap.size).add 0) [.int .i64 AWriter65, .int .i64 AIndex66, .int .u64 APrev67, .int .i64 AAtT68, .int .i64 AAtW69, .int .i64 AEpoch70, .slice ABody71a ABody71n ABody71c, .int .u64 ASig72] 0 ∧
  Calls Try.prog 58 #[.pointer o1, .int .u64 publicv2, .agg #[.int .i64 AWriter65, .int .i64 AIndex66, .int .u64 APrev67, .int .i64 AAtT68, .int .i64 AAtW69, .int .i64 AEpoch70, .slice ABody71a ABody71n ABody71c, .int .u64 ASig72]] ww64 fun ee74 ww75 => ∃ (holds73 : Bool), ee74 = .returned (.bool holds73) ∧
  bif !holds73 then (
  R (.int .i64 6) ww75) else (
  ∃ (BWriter76 : Int) (BIndex77 : Int) (BPrev78 : Int) (BAtT79 : Int) (BAtW80 : Int) (BEpoch81 : Int) (BBody82a : Option Addr) (BBody82n : Nat) (BBody82c : Nat) (BSig83 : Int), cellsAt ww75 ((blk w.heap.size).add 8) [.int .i64 BWriter76, .int .i64 BIndex77, .int .u64 BPrev78, .int .i64 BAtT79, .int .i64 BAtW80, .int .i64 BEpoch81, .slice BBody82a BBody82n BBody82c, .int .u64 BSig83] 0 ∧
  Calls Try.prog 58 #[.pointer o1, .int .u64 publicv2, .agg #[.int .i64 BWriter76, .int .i64 BIndex77, .int .u64 BPrev78, .int .i64 BAtT79, .int .i64 BAtW80, .int .i64 BEpoch81, .slice BBody82a BBody82n BBody82c, .int .u64 BSig83]] ww75 fun ee85 ww86 => ∃ (holds84 : Bool), ee85 = .returned (.bool holds84) ∧
  bif !holds84 then (
  R (.int .i64 6) ww86) else (
  R (.int .i64 0) ww86)))))))

theorem cachetteref23_Check.eq (o1 : Option Addr) (publicv2 : Int) (pAWriter3 : Int) (pAIndex4 : Int) (pAPrev5 : Int) (pAAtT6 : Int) (pAAtW7 : Int) (pAEpoch8 : Int) (pABody9a : Option Addr) (pABody9n : Nat) (pABody9c : Nat) (pASig10 : Int) (pBWriter11 : Int) (pBIndex12 : Int) (pBPrev13 : Int) (pBAtT14 : Int) (pBAtW15 : Int) (pBEpoch16 : Int) (pBBody17a : Option Addr) (pBBody17n : Nat) (pBBody17c : Nat) (pBSig18 : Int) (R : Value → World → Prop) (w : World) : mfunc Try.prog [] 17 [.pointer o1, .int .u64 publicv2, .agg #[.int .i64 pAWriter3, .int .i64 pAIndex4, .int .u64 pAPrev5, .int .i64 pAAtT6, .int .i64 pAAtW7, .int .i64 pAEpoch8, .slice pABody9a pABody9n pABody9c, .int .u64 pASig10, .int .i64 pBWriter11, .int .i64 pBIndex12, .int .u64 pBPrev13, .int .i64 pBAtT14, .int .i64 pBAtW15, .int .i64 pBEpoch16, .slice pBBody17a pBBody17n pBBody17c, .int .u64 pBSig18]] R w = cachetteref23_Check.M o1 publicv2 pAWriter3 pAIndex4 pAPrev5 pAAtT6 pAAtW7 pAEpoch8 pABody9a pABody9n pABody9c pASig10 pBWriter11 pBIndex12 pBPrev13 pBAtT14 pBAtW15 pBEpoch16 pBBody17a pBBody17n pBBody17c pBSig18 R w := by kernel_rfl
theorem cachetteref23_Check.ok (o1 : Option Addr) (publicv2 : Int) (pAWriter3 : Int) (pAIndex4 : Int) (pAPrev5 : Int) (pAAtT6 : Int) (pAAtW7 : Int) (pAEpoch8 : Int) (pABody9a : Option Addr) (pABody9n : Nat) (pABody9c : Nat) (pASig10 : Int) (pBWriter11 : Int) (pBIndex12 : Int) (pBPrev13 : Int) (pBAtT14 : Int) (pBAtW15 : Int) (pBEpoch16 : Int) (pBBody17a : Option Addr) (pBBody17n : Nat) (pBBody17c : Nat) (pBSig18 : Int) {R : Value → World → Prop} {w : World} (h : cachetteref23_Check.M o1 publicv2 pAWriter3 pAIndex4 pAPrev5 pAAtT6 pAAtW7 pAEpoch8 pABody9a pABody9n pABody9c pASig10 pBWriter11 pBIndex12 pBPrev13 pBAtT14 pBAtW15 pBEpoch16 pBBody17a pBBody17n pBBody17c pBSig18 R w) : Calls Try.prog 17 #[.pointer o1, .int .u64 publicv2, .agg #[.int .i64 pAWriter3, .int .i64 pAIndex4, .int .u64 pAPrev5, .int .i64 pAAtT6, .int .i64 pAAtW7, .int .i64 pAEpoch8, .slice pABody9a pABody9n pABody9c, .int .u64 pASig10, .int .i64 pBWriter11, .int .i64 pBIndex12, .int .u64 pBPrev13, .int .i64 pBAtT14, .int .i64 pBAtW15, .int .i64 pBEpoch16, .slice pBBody17a pBBody17n pBBody17c, .int .u64 pBSig18]] w fun e w' => ∃ v, e = .returned v ∧ R v w' :=
  mfunc_ok follows (H := []) (args := [.pointer o1, .int .u64 publicv2, .agg #[.int .i64 pAWriter3, .int .i64 pAIndex4, .int .u64 pAPrev5, .int .i64 pAAtT6, .int .i64 pAAtW7, .int .i64 pAEpoch8, .slice pABody9a pABody9n pABody9c, .int .u64 pASig10, .int .i64 pBWriter11, .int .i64 pBIndex12, .int .u64 pBPrev13, .int .i64 pBAtT14, .int .i64 pBAtW15, .int .i64 pBEpoch16, .slice pBBody17a pBBody17n pBBody17c, .int .u64 pBSig18]]) (by rw [cachetteref23_Check.eq]; exact h)

def cachetteref23_Check.N (o1 : Option Addr) (publicv2 : Int) (pAWriter3 : Int) (pAIndex4 : Int) (pAPrev5 : Int) (pAAtT6 : Int) (pAAtW7 : Int) (pAEpoch8 : Int) (pABody9a : Option Addr) (pABody9n : Nat) (pABody9c : Nat) (pASig10 : Int) (pBWriter11 : Int) (pBIndex12 : Int) (pBPrev13 : Int) (pBAtT14 : Int) (pBAtW15 : Int) (pBEpoch16 : Int) (pBBody17a : Option Addr) (pBBody17n : Nat) (pBBody17c : Nat) (pBSig18 : Int) (R : Value → World → Prop) (w : World) : Prop :=
  ((cachetteref06_Right.F pAWriter3 pAIndex4 pAPrev5 pAAtT6 pAAtW7 pAEpoch8 pABody9a pABody9n pABody9c pASig10) = false →
    ∀ (ww20 : World), Ext no w ww20 →
    R (.int .i64 1) ww20) ∧
  ((cachetteref06_Right.F pAWriter3 pAIndex4 pAPrev5 pAAtT6 pAAtW7 pAEpoch8 pABody9a pABody9n pABody9c pASig10) = true →
    ((cachetteref06_Right.F pBWriter11 pBIndex12 pBPrev13 pBAtT14 pBAtW15 pBEpoch16 pBBody17a pBBody17n pBBody17c pBSig18) = false →
      ∀ (ww23 : World), Ext no w ww23 →
      R (.int .i64 1) ww23) ∧
    ((cachetteref06_Right.F pBWriter11 pBIndex12 pBPrev13 pBAtT14 pBAtW15 pBEpoch16 pBBody17a pBBody17n pBBody17c pBSig18) = true →
      (pAWriter3 ≠ pBWriter11 →
        ∀ (ww23 : World), Ext no w ww23 →
        R (.int .i64 20) ww23) ∧
      (pAWriter3 = pBWriter11 →
        (pAIndex4 ≠ pBIndex12 →
          ∀ (ww23 : World), Ext no w ww23 →
          R (.int .i64 2) ww23) ∧
        (pAIndex4 = pBIndex12 →
          ∀ (ww23 : World) (p30 : Nat), Ext no w ww23 → Priv w ww23 [p30] →
          Calls Try.prog 15 #[.agg #[.int .i64 pAWriter3, .int .i64 pAIndex4, .int .u64 pAPrev5, .int .i64 pAAtT6, .int .i64 pAAtW7, .int .i64 pAEpoch8, .slice pABody9a pABody9n pABody9c, .int .u64 pASig10], .agg #[.int .i64 pBWriter11, .int .i64 pBIndex12, .int .u64 pBPrev13, .int .i64 pBAtT14, .int .i64 pBAtW15, .int .i64 pBEpoch16, .slice pBBody17a pBBody17n pBBody17c, .int .u64 pBSig18]] ww23 fun ee32 ww33 => ∃ (same31 : Bool), ee32 = .returned (.bool same31) ∧
          Keep [p30] ww23 ww33 ∧
          (same31 = true →
            R (.int .i64 8) ww33) ∧
          (same31 = false →
            Calls Try.prog 58 #[.pointer o1, .int .u64 publicv2, .agg #[.int .i64 pAWriter3, .int .i64 pAIndex4, .int .u64 pAPrev5, .int .i64 pAAtT6, .int .i64 pAAtW7, .int .i64 pAEpoch8, .slice pABody9a pABody9n pABody9c, .int .u64 pASig10]] ww33 fun ee36 ww37 => ∃ (holds35 : Bool), ee36 = .returned (.bool holds35) ∧
            Keep [p30] ww33 ww37 ∧
            (holds35 = false →
              R (.int .i64 6) ww37) ∧
            (holds35 = true →
              Calls Try.prog 58 #[.pointer o1, .int .u64 publicv2, .agg #[.int .i64 pBWriter11, .int .i64 pBIndex12, .int .u64 pBPrev13, .int .i64 pBAtT14, .int .i64 pBAtW15, .int .i64 pBEpoch16, .slice pBBody17a pBBody17n pBBody17c, .int .u64 pBSig18]] ww37 fun ee40 ww41 => ∃ (holds39 : Bool), ee40 = .returned (.bool holds39) ∧
              (holds39 = false →
                R (.int .i64 6) ww41) ∧
              (holds39 = true →
                R (.int .i64 0) ww41)))))))

theorem cachetteref23_Check.up (o1 : Option Addr) (publicv2 : Int) (pAWriter3 : Int) (pAIndex4 : Int) (pAPrev5 : Int) (pAAtT6 : Int) (pAAtW7 : Int) (pAEpoch8 : Int) (pABody9a : Option Addr) (pABody9n : Nat) (pABody9c : Nat) (pASig10 : Int) (pBWriter11 : Int) (pBIndex12 : Int) (pBPrev13 : Int) (pBAtT14 : Int) (pBAtW15 : Int) (pBEpoch16 : Int) (pBBody17a : Option Addr) (pBBody17n : Nat) (pBBody17c : Nat) (pBSig18 : Int) {R : Value → World → Prop} {w : World} (h : cachetteref23_Check.N o1 publicv2 pAWriter3 pAIndex4 pAPrev5 pAAtT6 pAAtW7 pAEpoch8 pABody9a pABody9n pABody9c pASig10 pBWriter11 pBIndex12 pBPrev13 pBAtT14 pBAtW15 pBEpoch16 pBBody17a pBBody17n pBBody17c pBSig18 R w) : cachetteref23_Check.M o1 publicv2 pAWriter3 pAIndex4 pAPrev5 pAAtT6 pAAtW7 pAEpoch8 pABody9a pABody9n pABody9c pASig10 pBWriter11 pBIndex12 pBPrev13 pBAtT14 pBAtW15 pBEpoch16 pBBody17a pBBody17n pBBody17c pBSig18 R w := by
  unfold cachetteref23_Check.M
  unfold cachetteref23_Check.N at h
  refine thenW_in fun ww19 e19 => ?_
  have hb1 := Blk.of_new e19
  have hg1 := ((Ext.refl no w)).size
  have hx19 := (Ext.refl no w).x_alloc e19
  refine ⟨pAWriter3, pAIndex4, pAPrev5, pAAtT6, pAAtW7, pAEpoch8, pABody9a, pABody9n, pABody9c, pASig10, ⟨hb1.celli 0 rfl rfl, hb1.celli 1 rfl rfl, hb1.celli 2 rfl rfl, hb1.celli 3 rfl rfl, hb1.celli 4 rfl rfl, hb1.celli 5 rfl rfl, hb1.celli 6 rfl rfl, hb1.celli 7 rfl rfl, trivial⟩, ?_⟩
  refine (cachetteref06_Right.pure pAWriter3 pAIndex4 pAPrev5 pAAtT6 pAAtW7 pAEpoch8 pABody9a pABody9n pABody9c pASig10).mono fun ee ww20 ⟨he, hxx⟩ => ⟨(cachetteref06_Right.F pAWriter3 pAIndex4 pAPrev5 pAAtT6 pAAtW7 pAEpoch8 pABody9a pABody9n pABody9c pASig10), he, ?_⟩
  have hx20 := hx19.trans hxx
  have hb1 := hb1.ext hxx id
  refine bif_of (fun c21 => ?_) (fun c21 => ?_)
  · have h := h.1 (not_t c21)
    have h := h ww20 hx20
    exact h
  · have h := h.2 (not_f c21)
    refine ⟨pBWriter11, pBIndex12, pBPrev13, pBAtT14, pBAtW15, pBEpoch16, pBBody17a, pBBody17n, pBBody17c, pBSig18, ⟨hb1.celli 8 rfl rfl, hb1.celli 9 rfl rfl, hb1.celli 10 rfl rfl, hb1.celli 11 rfl rfl, hb1.celli 12 rfl rfl, hb1.celli 13 rfl rfl, hb1.celli 14 rfl rfl, hb1.celli 15 rfl rfl, trivial⟩, ?_⟩
    refine (cachetteref06_Right.pure pBWriter11 pBIndex12 pBPrev13 pBAtT14 pBAtW15 pBEpoch16 pBBody17a pBBody17n pBBody17c pBSig18).mono fun ee ww23 ⟨he, hxx⟩ => ⟨(cachetteref06_Right.F pBWriter11 pBIndex12 pBPrev13 pBAtT14 pBAtW15 pBEpoch16 pBBody17a pBBody17n pBBody17c pBSig18), he, ?_⟩
    have hx23 := hx20.trans hxx
    have hb1 := hb1.ext hxx id
    refine bif_of (fun c24 => ?_) (fun c24 => ?_)
    · have h := h.1 (not_t c24)
      have h := h ww23 hx23
      exact h
    · have h := h.2 (not_f c24)
      refine ⟨pAWriter3, hb1.celli 0 rfl rfl, ?_⟩
      refine ⟨pBWriter11, hb1.celli 8 rfl rfl, ?_⟩
      refine bif_of (fun c26 => ?_) (fun c26 => ?_)
      · have h := h.1 (bne_t c26)
        have h := h ww23 hx23
        exact h
      · have h := h.2 (bne_f c26)
        refine ⟨pAIndex4, hb1.celli 1 rfl rfl, ?_⟩
        refine ⟨pBIndex12, hb1.celli 9 rfl rfl, ?_⟩
        refine bif_of (fun c28 => ?_) (fun c28 => ?_)
        · have h := h.1 (bne_t c28)
          have h := h ww23 hx23
          exact h
        · have h := h.2 (bne_f c28)
          refine ⟨pAWriter3, pAIndex4, pAPrev5, pAAtT6, pAAtW7, pAEpoch8, pABody9a, pABody9n, pABody9c, pASig10, ⟨hb1.celli 0 rfl rfl, hb1.celli 1 rfl rfl, hb1.celli 2 rfl rfl, hb1.celli 3 rfl rfl, hb1.celli 4 rfl rfl, hb1.celli 5 rfl rfl, hb1.celli 6 rfl rfl, hb1.celli 7 rfl rfl, trivial⟩, ?_⟩
          refine ⟨pBWriter11, pBIndex12, pBPrev13, pBAtT14, pBAtW15, pBEpoch16, pBBody17a, pBBody17n, pBBody17c, pBSig18, ⟨hb1.celli 8 rfl rfl, hb1.celli 9 rfl rfl, hb1.celli 10 rfl rfl, hb1.celli 11 rfl rfl, hb1.celli 12 rfl rfl, hb1.celli 13 rfl rfl, hb1.celli 14 rfl rfl, hb1.celli 15 rfl rfl, trivial⟩, ?_⟩
          have h := h ww23 (w.heap.size) hx23 (Priv.cons hg1 hb1.lt Priv.nil)
          refine h.mono fun ee32 ww33 h => ?_
          obtain ⟨same31, he, hk, h⟩ := h
          refine ⟨same31, he, ?_⟩
          have hb1 := hk.blk hb1 (by simp)
          refine bif_of (fun c34 => ?_) (fun c34 => ?_)
          · have h := h.1 c34
            exact h
          · have h := h.2 c34
            refine ⟨pAWriter3, pAIndex4, pAPrev5, pAAtT6, pAAtW7, pAEpoch8, pABody9a, pABody9n, pABody9c, pASig10, ⟨hb1.celli 0 rfl rfl, hb1.celli 1 rfl rfl, hb1.celli 2 rfl rfl, hb1.celli 3 rfl rfl, hb1.celli 4 rfl rfl, hb1.celli 5 rfl rfl, hb1.celli 6 rfl rfl, hb1.celli 7 rfl rfl, trivial⟩, ?_⟩
            refine h.mono fun ee36 ww37 h => ?_
            obtain ⟨holds35, he, hk, h⟩ := h
            refine ⟨holds35, he, ?_⟩
            have hb1 := hk.blk hb1 (by simp)
            refine bif_of (fun c38 => ?_) (fun c38 => ?_)
            · have h := h.1 (not_t c38)
              exact h
            · have h := h.2 (not_f c38)
              refine ⟨pBWriter11, pBIndex12, pBPrev13, pBAtT14, pBAtW15, pBEpoch16, pBBody17a, pBBody17n, pBBody17c, pBSig18, ⟨hb1.celli 8 rfl rfl, hb1.celli 9 rfl rfl, hb1.celli 10 rfl rfl, hb1.celli 11 rfl rfl, hb1.celli 12 rfl rfl, hb1.celli 13 rfl rfl, hb1.celli 14 rfl rfl, hb1.celli 15 rfl rfl, trivial⟩, ?_⟩
              refine h.mono fun ee40 ww41 h => ?_
              obtain ⟨holds39, he, h⟩ := h
              refine ⟨holds39, he, ?_⟩
              refine bif_of (fun c42 => ?_) (fun c42 => ?_)
              · have h := h.1 (not_t c42)
                exact h
              · have h := h.2 (not_f c42)
                exact h

theorem cachetteref23_Check.go (o1 : Option Addr) (publicv2 : Int) (pAWriter3 : Int) (pAIndex4 : Int) (pAPrev5 : Int) (pAAtT6 : Int) (pAAtW7 : Int) (pAEpoch8 : Int) (pABody9a : Option Addr) (pABody9n : Nat) (pABody9c : Nat) (pASig10 : Int) (pBWriter11 : Int) (pBIndex12 : Int) (pBPrev13 : Int) (pBAtT14 : Int) (pBAtW15 : Int) (pBEpoch16 : Int) (pBBody17a : Option Addr) (pBBody17n : Nat) (pBBody17c : Nat) (pBSig18 : Int) {R : Value → World → Prop} {w : World} (h : cachetteref23_Check.N o1 publicv2 pAWriter3 pAIndex4 pAPrev5 pAAtT6 pAAtW7 pAEpoch8 pABody9a pABody9n pABody9c pASig10 pBWriter11 pBIndex12 pBPrev13 pBAtT14 pBAtW15 pBEpoch16 pBBody17a pBBody17n pBBody17c pBSig18 R w) : Calls Try.prog 17 #[.pointer o1, .int .u64 publicv2, .agg #[.int .i64 pAWriter3, .int .i64 pAIndex4, .int .u64 pAPrev5, .int .i64 pAAtT6, .int .i64 pAAtW7, .int .i64 pAEpoch8, .slice pABody9a pABody9n pABody9c, .int .u64 pASig10, .int .i64 pBWriter11, .int .i64 pBIndex12, .int .u64 pBPrev13, .int .i64 pBAtT14, .int .i64 pBAtW15, .int .i64 pBEpoch16, .slice pBBody17a pBBody17n pBBody17c, .int .u64 pBSig18]] w fun e w' => ∃ v, e = .returned v ∧ R v w' := cachetteref23_Check.ok o1 publicv2 pAWriter3 pAIndex4 pAPrev5 pAAtT6 pAAtW7 pAEpoch8 pABody9a pABody9n pABody9c pASig10 pBWriter11 pBIndex12 pBPrev13 pBAtT14 pBAtW15 pBEpoch16 pBBody17a pBBody17n pBBody17c pBSig18 (cachetteref23_Check.up o1 publicv2 pAWriter3 pAIndex4 pAPrev5 pAAtT6 pAAtW7 pAEpoch8 pABody9a pABody9n pABody9c pASig10 pBWriter11 pBIndex12 pBPrev13 pBAtT14 pBAtW15 pBEpoch16 pBBody17a pBBody17n pBBody17c pBSig18 h)
theorem cachetteref23_Check.run (o1 : Option Addr) (publicv2 : Int) (pAWriter3 : Int) (pAIndex4 : Int) (pAPrev5 : Int) (pAAtT6 : Int) (pAAtW7 : Int) (pAEpoch8 : Int) (pABody9a : Option Addr) (pABody9n : Nat) (pABody9c : Nat) (pASig10 : Int) (pBWriter11 : Int) (pBIndex12 : Int) (pBPrev13 : Int) (pBAtT14 : Int) (pBAtW15 : Int) (pBEpoch16 : Int) (pBBody17a : Option Addr) (pBBody17n : Nat) (pBBody17c : Nat) (pBSig18 : Int) {V : Value} {Q : World → Prop} {w : World} (h : cachetteref23_Check.N o1 publicv2 pAWriter3 pAIndex4 pAPrev5 pAAtT6 pAAtW7 pAEpoch8 pABody9a pABody9n pABody9c pASig10 pBWriter11 pBIndex12 pBPrev13 pBAtT14 pBAtW15 pBEpoch16 pBBody17a pBBody17n pBBody17c pBSig18 (fun v w' => v = V ∧ Q w') w) : Calls Try.prog 17 #[.pointer o1, .int .u64 publicv2, .agg #[.int .i64 pAWriter3, .int .i64 pAIndex4, .int .u64 pAPrev5, .int .i64 pAAtT6, .int .i64 pAAtW7, .int .i64 pAEpoch8, .slice pABody9a pABody9n pABody9c, .int .u64 pASig10, .int .i64 pBWriter11, .int .i64 pBIndex12, .int .u64 pBPrev13, .int .i64 pBAtT14, .int .i64 pBAtW15, .int .i64 pBEpoch16, .slice pBBody17a pBBody17n pBBody17c, .int .u64 pBSig18]] w (Ret V Q) := (cachetteref23_Check.go o1 publicv2 pAWriter3 pAIndex4 pAPrev5 pAAtT6 pAAtW7 pAEpoch8 pABody9a pABody9n pABody9c pASig10 pBWriter11 pBIndex12 pBPrev13 pBAtT14 pBAtW15 pBEpoch16 pBBody17a pBBody17n pBBody17c pBSig18 h).mono fun e w' ⟨v, he, hv, hq⟩ => ⟨by rw [he, hv], hq⟩

/-- forkcheck.own -/
def forkcheck_own.M (eWriter1 : Int) (eIndex2 : Int) (ePrev3 : Int) (eAtT4 : Int) (eAtW5 : Int) (eEpoch6 : Int) (eBody7a : Option Addr) (eBody7n : Nat) (eBody7c : Nat) (eSig8 : Int) (R : Value → World → Prop) (w : World) : Prop :=
  thenW (w.alloc (.cells #[.int .i64 eWriter1, .int .i64 eIndex2, .int .u64 ePrev3, .int .i64 eAtT4, .int .i64 eAtW5, .int .i64 eEpoch6, .slice eBody7a eBody7n eBody7c, .int .u64 eSig8] 28)) fun ww9 =>
  thenW (ww9.alloc (.cells #[.int .i64 0, .int .i64 0, .int .u64 0, .int .i64 0, .int .i64 0, .int .i64 0, .slice none 0 0, .int .u64 0] 28)) fun ww10 =>
  ∃ (Body11a : Option Addr) (Body11n : Nat) (Body11c : Nat), ww10.cell? ((blk w.heap.size).add 6) = some (.slice Body11a Body11n Body11c) ∧
  Calls Try.prog 87 #[.slice Body11a Body11n Body11c] ww10 fun ee13 ww14 => ∃ (clone12a : Option Addr) (clone12n : Nat) (clone12c : Nat), ee13 = .returned (.slice clone12a clone12n clone12c) ∧
  canStore ww14 (((blk w.heap.size).add 6).add 0) ∧
  thenW (ww14.setCell (((blk w.heap.size).add 6).add 0) (.slice clone12a clone12n clone12c)) fun ww15 =>
  ∃ (xWriter16 : Int) (xIndex17 : Int) (xPrev18 : Int) (xAtT19 : Int) (xAtW20 : Int) (xEpoch21 : Int) (xBody22a : Option Addr) (xBody22n : Nat) (xBody22c : Nat) (xSig23 : Int), cellsAt ww15 (blk w.heap.size) [.int .i64 xWriter16, .int .i64 xIndex17, .int .u64 xPrev18, .int .i64 xAtT19, .int .i64 xAtW20, .int .i64 xEpoch21, .slice xBody22a xBody22n xBody22c, .int .u64 xSig23] 0 ∧
  canStore ww15 ((blk ww9.heap.size).add 0) ∧
  thenW (ww15.setCell ((blk ww9.heap.size).add 0) (.int .i64 xWriter16)) fun ww24 =>
  canStore ww24 ((blk ww9.heap.size).add 1) ∧
  thenW (ww24.setCell ((blk ww9.heap.size).add 1) (.int .i64 xIndex17)) fun ww25 =>
  canStore ww25 ((blk ww9.heap.size).add 2) ∧
  thenW (ww25.setCell ((blk ww9.heap.size).add 2) (.int .u64 xPrev18)) fun ww26 =>
  canStore ww26 ((blk ww9.heap.size).add 3) ∧
  thenW (ww26.setCell ((blk ww9.heap.size).add 3) (.int .i64 xAtT19)) fun ww27 =>
  canStore ww27 ((blk ww9.heap.size).add 4) ∧
  thenW (ww27.setCell ((blk ww9.heap.size).add 4) (.int .i64 xAtW20)) fun ww28 =>
  canStore ww28 ((blk ww9.heap.size).add 5) ∧
  thenW (ww28.setCell ((blk ww9.heap.size).add 5) (.int .i64 xEpoch21)) fun ww29 =>
  canStore ww29 ((blk ww9.heap.size).add 6) ∧
  thenW (ww29.setCell ((blk ww9.heap.size).add 6) (.slice xBody22a xBody22n xBody22c)) fun ww30 =>
  canStore ww30 ((blk ww9.heap.size).add 7) ∧
  thenW (ww30.setCell ((blk ww9.heap.size).add 7) (.int .u64 xSig23)) fun ww31 =>
  ∃ (resWriter32 : Int) (resIndex33 : Int) (resPrev34 : Int) (resAtT35 : Int) (resAtW36 : Int) (resEpoch37 : Int) (resBody38a : Option Addr) (resBody38n : Nat) (resBody38c : Nat) (resSig39 : Int), cellsAt ww31 (blk ww9.heap.size) [.int .i64 resWriter32, .int .i64 resIndex33, .int .u64 resPrev34, .int .i64 resAtT35, .int .i64 resAtW36, .int .i64 resEpoch37, .slice resBody38a resBody38n resBody38c, .int .u64 resSig39] 0 ∧
  R (.agg #[.int .i64 resWriter32, .int .i64 resIndex33, .int .u64 resPrev34, .int .i64 resAtT35, .int .i64 resAtW36, .int .i64 resEpoch37, .slice resBody38a resBody38n resBody38c, .int .u64 resSig39]) ww31

theorem forkcheck_own.eq (eWriter1 : Int) (eIndex2 : Int) (ePrev3 : Int) (eAtT4 : Int) (eAtW5 : Int) (eEpoch6 : Int) (eBody7a : Option Addr) (eBody7n : Nat) (eBody7c : Nat) (eSig8 : Int) (R : Value → World → Prop) (w : World) : mfunc Try.prog [] 60 [.agg #[.int .i64 eWriter1, .int .i64 eIndex2, .int .u64 ePrev3, .int .i64 eAtT4, .int .i64 eAtW5, .int .i64 eEpoch6, .slice eBody7a eBody7n eBody7c, .int .u64 eSig8]] R w = forkcheck_own.M eWriter1 eIndex2 ePrev3 eAtT4 eAtW5 eEpoch6 eBody7a eBody7n eBody7c eSig8 R w := by kernel_rfl
theorem forkcheck_own.ok (eWriter1 : Int) (eIndex2 : Int) (ePrev3 : Int) (eAtT4 : Int) (eAtW5 : Int) (eEpoch6 : Int) (eBody7a : Option Addr) (eBody7n : Nat) (eBody7c : Nat) (eSig8 : Int) {R : Value → World → Prop} {w : World} (h : forkcheck_own.M eWriter1 eIndex2 ePrev3 eAtT4 eAtW5 eEpoch6 eBody7a eBody7n eBody7c eSig8 R w) : Calls Try.prog 60 #[.agg #[.int .i64 eWriter1, .int .i64 eIndex2, .int .u64 ePrev3, .int .i64 eAtT4, .int .i64 eAtW5, .int .i64 eEpoch6, .slice eBody7a eBody7n eBody7c, .int .u64 eSig8]] w fun e w' => ∃ v, e = .returned v ∧ R v w' :=
  mfunc_ok follows (H := []) (args := [.agg #[.int .i64 eWriter1, .int .i64 eIndex2, .int .u64 ePrev3, .int .i64 eAtT4, .int .i64 eAtW5, .int .i64 eEpoch6, .slice eBody7a eBody7n eBody7c, .int .u64 eSig8]]) (by rw [forkcheck_own.eq]; exact h)

def forkcheck_own.N (eWriter1 : Int) (eIndex2 : Int) (ePrev3 : Int) (eAtT4 : Int) (eAtW5 : Int) (eEpoch6 : Int) (eBody7a : Option Addr) (eBody7n : Nat) (eBody7c : Nat) (eSig8 : Int) (R : Value → World → Prop) (w : World) : Prop :=
  ∀ (ww10 : World) (p11 : Nat) (p12 : Nat), Ext no w ww10 → Priv w ww10 [p11, p12] →
  Calls Try.prog 87 #[.slice eBody7a eBody7n eBody7c] ww10 fun ee14 ww15 => ∃ (clone13a : Option Addr) (clone13n : Nat) (clone13c : Nat), ee14 = .returned (.slice clone13a clone13n clone13c) ∧
  Keep [p11, p12] ww10 ww15 ∧
  ∀ (ww24 : World), Ext (fun b => b = p12 ∨ b = p11) ww15 ww24 →
  R (.agg #[.int .i64 eWriter1, .int .i64 eIndex2, .int .u64 ePrev3, .int .i64 eAtT4, .int .i64 eAtW5, .int .i64 eEpoch6, .slice clone13a clone13n clone13c, .int .u64 eSig8]) ww24

theorem forkcheck_own.up (eWriter1 : Int) (eIndex2 : Int) (ePrev3 : Int) (eAtT4 : Int) (eAtW5 : Int) (eEpoch6 : Int) (eBody7a : Option Addr) (eBody7n : Nat) (eBody7c : Nat) (eSig8 : Int) {R : Value → World → Prop} {w : World} (h : forkcheck_own.N eWriter1 eIndex2 ePrev3 eAtT4 eAtW5 eEpoch6 eBody7a eBody7n eBody7c eSig8 R w) : forkcheck_own.M eWriter1 eIndex2 ePrev3 eAtT4 eAtW5 eEpoch6 eBody7a eBody7n eBody7c eSig8 R w := by
  unfold forkcheck_own.M
  unfold forkcheck_own.N at h
  refine thenW_in fun ww9 e9 => ?_
  have hb1 := Blk.of_new e9
  have hg1 := ((Ext.refl no w)).size
  have hx9 := (Ext.refl no w).x_alloc e9
  refine thenW_in fun ww10 e10 => ?_
  have hb2 := Blk.of_new e10
  have hg2 := (hx9).size
  have hb1_2 := Nat.ne_of_lt hb1.lt
  have hb1 := hb1.x_alloc e10
  have hx10 := hx9.x_alloc e10
  refine ⟨eBody7a, eBody7n, eBody7c, hb1.celli 6 rfl rfl, ?_⟩
  have h := h ww10 (w.heap.size) (ww9.heap.size) hx10 (Priv.cons hg1 hb1.lt (Priv.cons hg2 hb2.lt Priv.nil))
  refine h.mono fun ee14 ww15 h => ?_
  obtain ⟨clone13a, clone13n, clone13c, he, hk, h⟩ := h
  refine ⟨clone13a, clone13n, clone13c, he, ?_⟩
  have hb1 := hk.blk hb1 (by simp)
  have hb2 := hk.blk hb2 (by simp)
  have hm16 : Ext (fun b => b = w.heap.size) ww15 ww15 := ((Ext.refl no ww15)).none
  refine ⟨hb1.cani 6 rfl rfl, thenW_in fun ww16 e16 => ?_⟩
  have hx16 := hm16.x_set (q := w.heap.size) (i := 6) rfl (.inl rfl) e16
  have hb1 := hb1.seti 6 rfl e16
  have hb2 := hb2.oth (q := w.heap.size) (i := 6) rfl (Ne.symm hb1_2) e16
  refine ⟨eWriter1, eIndex2, ePrev3, eAtT4, eAtW5, eEpoch6, clone13a, clone13n, clone13c, eSig8, ⟨hb1.celli 0 rfl rfl, hb1.celli 1 rfl rfl, hb1.celli 2 rfl rfl, hb1.celli 3 rfl rfl, hb1.celli 4 rfl rfl, hb1.celli 5 rfl rfl, hb1.celli 6 rfl rfl, hb1.celli 7 rfl rfl, trivial⟩, ?_⟩
  have hm24 : Ext (fun b => b = ww9.heap.size ∨ b = w.heap.size) ww15 ww16 := (hx16).mono fun _ h _ => .inr h
  refine ⟨hb2.cani 0 rfl rfl, thenW_in fun ww17 e17 => ?_⟩
  have hx17 := hm24.x_set (q := ww9.heap.size) (i := 0) rfl (.inl (.inl rfl)) e17
  have hb2 := hb2.seti 0 rfl e17
  refine ⟨hb2.cani 1 rfl rfl, thenW_in fun ww18 e18 => ?_⟩
  have hx18 := hx17.x_set (q := ww9.heap.size) (i := 1) rfl (.inl (.inl rfl)) e18
  have hb2 := hb2.seti 1 rfl e18
  refine ⟨hb2.cani 2 rfl rfl, thenW_in fun ww19 e19 => ?_⟩
  have hx19 := hx18.x_set (q := ww9.heap.size) (i := 2) rfl (.inl (.inl rfl)) e19
  have hb2 := hb2.seti 2 rfl e19
  refine ⟨hb2.cani 3 rfl rfl, thenW_in fun ww20 e20 => ?_⟩
  have hx20 := hx19.x_set (q := ww9.heap.size) (i := 3) rfl (.inl (.inl rfl)) e20
  have hb2 := hb2.seti 3 rfl e20
  refine ⟨hb2.cani 4 rfl rfl, thenW_in fun ww21 e21 => ?_⟩
  have hx21 := hx20.x_set (q := ww9.heap.size) (i := 4) rfl (.inl (.inl rfl)) e21
  have hb2 := hb2.seti 4 rfl e21
  refine ⟨hb2.cani 5 rfl rfl, thenW_in fun ww22 e22 => ?_⟩
  have hx22 := hx21.x_set (q := ww9.heap.size) (i := 5) rfl (.inl (.inl rfl)) e22
  have hb2 := hb2.seti 5 rfl e22
  refine ⟨hb2.cani 6 rfl rfl, thenW_in fun ww23 e23 => ?_⟩
  have hx23 := hx22.x_set (q := ww9.heap.size) (i := 6) rfl (.inl (.inl rfl)) e23
  have hb2 := hb2.seti 6 rfl e23
  refine ⟨hb2.cani 7 rfl rfl, thenW_in fun ww24 e24 => ?_⟩
  have hx24 := hx23.x_set (q := ww9.heap.size) (i := 7) rfl (.inl (.inl rfl)) e24
  have hb2 := hb2.seti 7 rfl e24
  refine ⟨eWriter1, eIndex2, ePrev3, eAtT4, eAtW5, eEpoch6, clone13a, clone13n, clone13c, eSig8, ⟨hb2.celli 0 rfl rfl, hb2.celli 1 rfl rfl, hb2.celli 2 rfl rfl, hb2.celli 3 rfl rfl, hb2.celli 4 rfl rfl, hb2.celli 5 rfl rfl, hb2.celli 6 rfl rfl, hb2.celli 7 rfl rfl, trivial⟩, ?_⟩
  have h := h ww24 hx24
  exact h

theorem forkcheck_own.go (eWriter1 : Int) (eIndex2 : Int) (ePrev3 : Int) (eAtT4 : Int) (eAtW5 : Int) (eEpoch6 : Int) (eBody7a : Option Addr) (eBody7n : Nat) (eBody7c : Nat) (eSig8 : Int) {R : Value → World → Prop} {w : World} (h : forkcheck_own.N eWriter1 eIndex2 ePrev3 eAtT4 eAtW5 eEpoch6 eBody7a eBody7n eBody7c eSig8 R w) : Calls Try.prog 60 #[.agg #[.int .i64 eWriter1, .int .i64 eIndex2, .int .u64 ePrev3, .int .i64 eAtT4, .int .i64 eAtW5, .int .i64 eEpoch6, .slice eBody7a eBody7n eBody7c, .int .u64 eSig8]] w fun e w' => ∃ v, e = .returned v ∧ R v w' := forkcheck_own.ok eWriter1 eIndex2 ePrev3 eAtT4 eAtW5 eEpoch6 eBody7a eBody7n eBody7c eSig8 (forkcheck_own.up eWriter1 eIndex2 ePrev3 eAtT4 eAtW5 eEpoch6 eBody7a eBody7n eBody7c eSig8 h)
theorem forkcheck_own.run (eWriter1 : Int) (eIndex2 : Int) (ePrev3 : Int) (eAtT4 : Int) (eAtW5 : Int) (eEpoch6 : Int) (eBody7a : Option Addr) (eBody7n : Nat) (eBody7c : Nat) (eSig8 : Int) {V : Value} {Q : World → Prop} {w : World} (h : forkcheck_own.N eWriter1 eIndex2 ePrev3 eAtT4 eAtW5 eEpoch6 eBody7a eBody7n eBody7c eSig8 (fun v w' => v = V ∧ Q w') w) : Calls Try.prog 60 #[.agg #[.int .i64 eWriter1, .int .i64 eIndex2, .int .u64 ePrev3, .int .i64 eAtT4, .int .i64 eAtW5, .int .i64 eEpoch6, .slice eBody7a eBody7n eBody7c, .int .u64 eSig8]] w (Ret V Q) := (forkcheck_own.go eWriter1 eIndex2 ePrev3 eAtT4 eAtW5 eEpoch6 eBody7a eBody7n eBody7c eSig8 h).mono fun e w' ⟨v, he, hv, hq⟩ => ⟨by rw [he, hv], hq⟩

/-- slices.Clone[[]byte,byte] -/
def slices_Clone_byte_byte.M (s1a : Option Addr) (s1n : Nat) (s1c : Nat) (R : Value → World → Prop) (w : World) : Prop :=
  bif Option.isNone s1a then (
  R (.slice none 0 0) w) else (
  thenW (w.alloc (.cells #[] 5)) fun ww2 =>
  ∃ (a3a : Option Addr) (a3n : Nat) (a3c : Nat) (ww4 : World), (Builtin.append_ #[26, 26] 26 #[.slice (some (blk w.heap.size)) 0 0, .slice s1a s1n s1c]).run Try.prog ww2 = .ok (.slice a3a a3n a3c) ww4 ∧
  R (.slice a3a a3n a3c) ww4)

theorem slices_Clone_byte_byte.eq (s1a : Option Addr) (s1n : Nat) (s1c : Nat) (R : Value → World → Prop) (w : World) : mfunc Try.prog [] 87 [.slice s1a s1n s1c] R w = slices_Clone_byte_byte.M s1a s1n s1c R w := by kernel_rfl
theorem slices_Clone_byte_byte.ok (s1a : Option Addr) (s1n : Nat) (s1c : Nat) {R : Value → World → Prop} {w : World} (h : slices_Clone_byte_byte.M s1a s1n s1c R w) : Calls Try.prog 87 #[.slice s1a s1n s1c] w fun e w' => ∃ v, e = .returned v ∧ R v w' :=
  mfunc_ok follows (H := []) (args := [.slice s1a s1n s1c]) (by rw [slices_Clone_byte_byte.eq]; exact h)

def slices_Clone_byte_byte.N (s1a : Option Addr) (s1n : Nat) (s1c : Nat) (R : Value → World → Prop) (w : World) : Prop :=
  (s1a = none →
    R (.slice none 0 0) w) ∧
  (s1a ≠ none →
    ∀ (ww3 : World) (q4 : Nat), Ext no w ww3 → Blk ww3 q4 5 [] → w.heap.size ≤ q4 → q4 < ww3.heap.size →
    ∃ (a5a : Option Addr) (a5n : Nat) (a5c : Nat) (ww6 : World), (Builtin.append_ #[26, 26] 26 #[.slice (some (blk q4)) 0 0, .slice s1a s1n s1c]).run Try.prog ww3 = .ok (.slice a5a a5n a5c) ww6 ∧
    R (.slice a5a a5n a5c) ww6)

theorem slices_Clone_byte_byte.up (s1a : Option Addr) (s1n : Nat) (s1c : Nat) {R : Value → World → Prop} {w : World} (h : slices_Clone_byte_byte.N s1a s1n s1c R w) : slices_Clone_byte_byte.M s1a s1n s1c R w := by
  unfold slices_Clone_byte_byte.M
  unfold slices_Clone_byte_byte.N at h
  refine bif_of (fun c2 => ?_) (fun c2 => ?_)
  · have h := h.1 (isNone_t c2)
    exact h
  · have h := h.2 (isNone_f c2)
    refine thenW_in fun ww3 e3 => ?_
    have h := h ww3 w.heap.size ((Ext.refl no w).x_alloc e3) (Blk.of_new e3) ((Ext.refl no w)).size (size_lt_alloc e3)
    obtain ⟨a5a, a5n, a5c, ww6, hr, h⟩ := h
    refine ⟨a5a, a5n, a5c, ww6, hr, ?_⟩
    exact h

theorem slices_Clone_byte_byte.go (s1a : Option Addr) (s1n : Nat) (s1c : Nat) {R : Value → World → Prop} {w : World} (h : slices_Clone_byte_byte.N s1a s1n s1c R w) : Calls Try.prog 87 #[.slice s1a s1n s1c] w fun e w' => ∃ v, e = .returned v ∧ R v w' := slices_Clone_byte_byte.ok s1a s1n s1c (slices_Clone_byte_byte.up s1a s1n s1c h)
theorem slices_Clone_byte_byte.run (s1a : Option Addr) (s1n : Nat) (s1c : Nat) {V : Value} {Q : World → Prop} {w : World} (h : slices_Clone_byte_byte.N s1a s1n s1c (fun v w' => v = V ∧ Q w') w) : Calls Try.prog 87 #[.slice s1a s1n s1c] w (Ret V Q) := (slices_Clone_byte_byte.go s1a s1n s1c h).mono fun e w' ⟨v, he, hv, hq⟩ => ⟨by rw [he, hv], hq⟩

/-- forkcheck.NewAlarm -/
def forkcheck_NewAlarm.M  (R : Value → World → Prop) (w : World) : Prop :=
  thenW (w.alloc (.map #[] 0)) fun ww1 =>
  thenW (ww1.alloc (.cells #[.map (some w.heap.size)] 140)) fun ww2 =>
  R (.pointer (some (blk ww1.heap.size))) ww2

theorem forkcheck_NewAlarm.eq  (R : Value → World → Prop) (w : World) : mfunc Try.prog [] 39 [] R w = forkcheck_NewAlarm.M  R w := by kernel_rfl
theorem forkcheck_NewAlarm.ok  {R : Value → World → Prop} {w : World} (h : forkcheck_NewAlarm.M  R w) : Calls Try.prog 39 #[] w fun e w' => ∃ v, e = .returned v ∧ R v w' :=
  mfunc_ok follows (H := []) (args := []) (by rw [forkcheck_NewAlarm.eq]; exact h)

def forkcheck_NewAlarm.N  (R : Value → World → Prop) (w : World) : Prop :=
  ∀ (ww1 : World) (q2 : Nat), Ext no w ww1 → ww1.heap[q2]? = some (.map #[] 0) → w.heap.size ≤ q2 → q2 < ww1.heap.size →
  ∀ (ww3 : World) (q4 : Nat), Ext no ww1 ww3 → Blk ww3 q4 140 [.map (some q2)] → ww1.heap.size ≤ q4 → q4 < ww3.heap.size →
  R (.pointer (some (blk q4))) ww3

theorem forkcheck_NewAlarm.up  {R : Value → World → Prop} {w : World} (h : forkcheck_NewAlarm.N  R w) : forkcheck_NewAlarm.M  R w := by
  unfold forkcheck_NewAlarm.M
  unfold forkcheck_NewAlarm.N at h
  refine thenW_in fun ww1 e1 => ?_
  have h := h ww1 w.heap.size ((Ext.refl no w).x_alloc e1) (get_alloc e1) (Nat.le_refl _) (size_lt_alloc e1)
  refine thenW_in fun ww3 e3 => ?_
  have h := h ww3 ww1.heap.size ((Ext.refl no ww1).x_alloc e3) (Blk.of_new e3) ((Ext.refl no ww1)).size (size_lt_alloc e3)
  exact h

theorem forkcheck_NewAlarm.go  {R : Value → World → Prop} {w : World} (h : forkcheck_NewAlarm.N  R w) : Calls Try.prog 39 #[] w fun e w' => ∃ v, e = .returned v ∧ R v w' := forkcheck_NewAlarm.ok  (forkcheck_NewAlarm.up  h)
theorem forkcheck_NewAlarm.run  {V : Value} {Q : World → Prop} {w : World} (h : forkcheck_NewAlarm.N  (fun v w' => v = V ∧ Q w') w) : Calls Try.prog 39 #[] w (Ret V Q) := (forkcheck_NewAlarm.go  h).mono fun e w' ⟨v, he, hv, hq⟩ => ⟨by rw [he, hv], hq⟩

/-- (*forkcheck.Alarm).Raise -/
def forkcheck_Alarm_Raise.M (a1 : Option Addr) (o2 : Option Addr) (publicv3 : Int) (pAWriter4 : Int) (pAIndex5 : Int) (pAPrev6 : Int) (pAAtT7 : Int) (pAAtW8 : Int) (pAEpoch9 : Int) (pABody10a : Option Addr) (pABody10n : Nat) (pABody10c : Nat) (pASig11 : Int) (pBWriter12 : Int) (pBIndex13 : Int) (pBPrev14 : Int) (pBAtT15 : Int) (pBAtW16 : Int) (pBEpoch17 : Int) (pBBody18a : Option Addr) (pBBody18n : Nat) (pBBody18c : Nat) (pBSig19 : Int) (R : Value → World → Prop) (w : World) : Prop :=
  thenW (w.alloc (.cells #[.int .i64 pAWriter4, .int .i64 pAIndex5, .int .u64 pAPrev6, .int .i64 pAAtT7, .int .i64 pAAtW8, .int .i64 pAEpoch9, .slice pABody10a pABody10n pABody10c, .int .u64 pASig11, .int .i64 pBWriter12, .int .i64 pBIndex13, .int .u64 pBPrev14, .int .i64 pBAtT15, .int .i64 pBAtW16, .int .i64 pBEpoch17, .slice pBBody18a pBBody18n pBBody18c, .int .u64 pBSig19] 48)) fun ww20 =>
  bif Option.isNone a1 then (
  R (.int .i64 23) ww20) else (
  ∃ (xAWriter21 : Int) (xAIndex22 : Int) (xAPrev23 : Int) (xAAtT24 : Int) (xAAtW25 : Int) (xAEpoch26 : Int) (xABody27a : Option Addr) (xABody27n : Nat) (xABody27c : Nat) (xASig28 : Int) (xBWriter29 : Int) (xBIndex30 : Int) (xBPrev31 : Int) (xBAtT32 : Int) (xBAtW33 : Int) (xBEpoch34 : Int) (xBBody35a : Option Addr) (xBBody35n : Nat) (xBBody35c : Nat) (xBSig36 : Int), cellsAt ww20 (blk w.heap.size) [.int .i64 xAWriter21, .int .i64 xAIndex22, .int .u64 xAPrev23, .int .i64 xAAtT24, .int .i64 xAAtW25, .int .i64 xAEpoch26, .slice xABody27a xABody27n xABody27c, .int .u64 xASig28, .int .i64 xBWriter29, .int .i64 xBIndex30, .int .u64 xBPrev31, .int .i64 xBAtT32, .int .i64 xBAtW33, .int .i64 xBEpoch34, .slice xBBody35a xBBody35n xBBody35c, .int .u64 xBSig36] 0 ∧
  Calls Try.prog 16 #[.pointer o2, .int .u64 publicv3, .agg #[.int .i64 xAWriter21, .int .i64 xAIndex22, .int .u64 xAPrev23, .int .i64 xAAtT24, .int .i64 xAAtW25, .int .i64 xAEpoch26, .slice xABody27a xABody27n xABody27c, .int .u64 xASig28, .int .i64 xBWriter29, .int .i64 xBIndex30, .int .u64 xBPrev31, .int .i64 xBAtT32, .int .i64 xBAtW33, .int .i64 xBEpoch34, .slice xBBody35a xBBody35n xBBody35c, .int .u64 xBSig36]] ww20 fun ee38 ww39 => ∃ (check37 : Int), ee38 = .returned (.int .i64 check37) ∧
  bif check37 != 0 then (
  R (.int .i64 check37) ww39) else (
  thenW (ww39.drew) fun ww40 =>
  a1.elim False fun a41 =>
  ∃ (m42 : Option Nat), ww40.cell? (a41.add 0) = some (.map m42) ∧
  ∃ (Writer43 : Int), ww40.cell? (((blk w.heap.size).add 0).add 0) = some (.int .i64 Writer43) ∧
  ∃ (AWriter44 : Int) (AIndex45 : Int) (APrev46 : Int) (AAtT47 : Int) (AAtW48 : Int) (AEpoch49 : Int) (ABody50a : Option Addr) (ABody50n : Nat) (ABody50c : Nat) (ASig51 : Int) (BWriter52 : Int) (BIndex53 : Int) (BPrev54 : Int) (BAtT55 : Int) (BAtW56 : Int) (BEpoch57 : Int) (BBody58a : Option Addr) (BBody58n : Nat) (BBody58c : Nat) (BSig59 : Int) (v60 : Bool), (Instr.lookup 138 (.map m42) (.int .i64 Writer43) true).run Try.prog ww40 = .ok (.tuple #[.agg #[.int .i64 AWriter44, .int .i64 AIndex45, .int .u64 APrev46, .int .i64 AAtT47, .int .i64 AAtW48, .int .i64 AEpoch49, .slice ABody50a ABody50n ABody50c, .int .u64 ASig51, .int .i64 BWriter52, .int .i64 BIndex53, .int .u64 BPrev54, .int .i64 BAtT55, .int .i64 BAtW56, .int .i64 BEpoch57, .slice BBody58a BBody58n BBody58c, .int .u64 BSig59], .bool v60]) ww40 ∧
  thenW (ww40.alloc (.cells #[.int .i64 0, .int .i64 0, .int .u64 0, .int .i64 0, .int .i64 0, .int .i64 0, .slice none 0 0, .int .u64 0, .int .i64 0, .int .i64 0, .int .u64 0, .int .i64 0, .int .i64 0, .int .i64 0, .slice none 0 0, .int .u64 0] 48)) fun ww61 =>
  (Instr.lookup 138 (.map m42) (.int .i64 Writer43) true).run Try.prog ww61 = .ok (.tuple #[.agg #[.int .i64 AWriter44, .int .i64 AIndex45, .int .u64 APrev46, .int .i64 AAtT47, .int .i64 AAtW48, .int .i64 AEpoch49, .slice ABody50a ABody50n ABody50c, .int .u64 ASig51, .int .i64 BWriter52, .int .i64 BIndex53, .int .u64 BPrev54, .int .i64 BAtT55, .int .i64 BAtW56, .int .i64 BEpoch57, .slice BBody58a BBody58n BBody58c, .int .u64 BSig59], .bool v60]) ww61 ∧
  ww61.cell? (((blk w.heap.size).add 0).add 0) = some (.int .i64 Writer43) ∧
  ww61.cell? (a41.add 0) = some (.map m42) ∧
  canStore ww61 ((blk ww40.heap.size).add 0) ∧
  thenW (ww61.setCell ((blk ww40.heap.size).add 0) (.int .i64 AWriter44)) fun ww62 =>
  canStore ww62 ((blk ww40.heap.size).add 1) ∧
  thenW (ww62.setCell ((blk ww40.heap.size).add 1) (.int .i64 AIndex45)) fun ww63 =>
  canStore ww63 ((blk ww40.heap.size).add 2) ∧
  thenW (ww63.setCell ((blk ww40.heap.size).add 2) (.int .u64 APrev46)) fun ww64 =>
  canStore ww64 ((blk ww40.heap.size).add 3) ∧
  thenW (ww64.setCell ((blk ww40.heap.size).add 3) (.int .i64 AAtT47)) fun ww65 =>
  canStore ww65 ((blk ww40.heap.size).add 4) ∧
  thenW (ww65.setCell ((blk ww40.heap.size).add 4) (.int .i64 AAtW48)) fun ww66 =>
  canStore ww66 ((blk ww40.heap.size).add 5) ∧
  thenW (ww66.setCell ((blk ww40.heap.size).add 5) (.int .i64 AEpoch49)) fun ww67 =>
  canStore ww67 ((blk ww40.heap.size).add 6) ∧
  thenW (ww67.setCell ((blk ww40.heap.size).add 6) (.slice ABody50a ABody50n ABody50c)) fun ww68 =>
  canStore ww68 ((blk ww40.heap.size).add 7) ∧
  thenW (ww68.setCell ((blk ww40.heap.size).add 7) (.int .u64 ASig51)) fun ww69 =>
  canStore ww69 ((blk ww40.heap.size).add 8) ∧
  thenW (ww69.setCell ((blk ww40.heap.size).add 8) (.int .i64 BWriter52)) fun ww70 =>
  canStore ww70 ((blk ww40.heap.size).add 9) ∧
  thenW (ww70.setCell ((blk ww40.heap.size).add 9) (.int .i64 BIndex53)) fun ww71 =>
  canStore ww71 ((blk ww40.heap.size).add 10) ∧
  thenW (ww71.setCell ((blk ww40.heap.size).add 10) (.int .u64 BPrev54)) fun ww72 =>
  canStore ww72 ((blk ww40.heap.size).add 11) ∧
  thenW (ww72.setCell ((blk ww40.heap.size).add 11) (.int .i64 BAtT55)) fun ww73 =>
  canStore ww73 ((blk ww40.heap.size).add 12) ∧
  thenW (ww73.setCell ((blk ww40.heap.size).add 12) (.int .i64 BAtW56)) fun ww74 =>
  canStore ww74 ((blk ww40.heap.size).add 13) ∧
  thenW (ww74.setCell ((blk ww40.heap.size).add 13) (.int .i64 BEpoch57)) fun ww75 =>
  canStore ww75 ((blk ww40.heap.size).add 14) ∧
  thenW (ww75.setCell ((blk ww40.heap.size).add 14) (.slice BBody58a BBody58n BBody58c)) fun ww76 =>
  canStore ww76 ((blk ww40.heap.size).add 15) ∧
  thenW (ww76.setCell ((blk ww40.heap.size).add 15) (.int .u64 BSig59)) fun ww77 =>
  bif !v60 then (
  thenW (ww77.drew) fun ww78 =>
  a1.elim False fun a79 =>
  ∃ (m80 : Option Nat), ww78.cell? (a79.add 0) = some (.map m80) ∧
  ∃ (Writer81 : Int), ww78.cell? (((blk w.heap.size).add 0).add 0) = some (.int .i64 Writer81) ∧
  ∃ (AWriter82 : Int) (AIndex83 : Int) (APrev84 : Int) (AAtT85 : Int) (AAtW86 : Int) (AEpoch87 : Int) (ABody88a : Option Addr) (ABody88n : Nat) (ABody88c : Nat) (ASig89 : Int), cellsAt ww78 ((blk w.heap.size).add 0) [.int .i64 AWriter82, .int .i64 AIndex83, .int .u64 APrev84, .int .i64 AAtT85, .int .i64 AAtW86, .int .i64 AEpoch87, .slice ABody88a ABody88n ABody88c, .int .u64 ASig89] 0 ∧
  ∃ (BWriter90 : Int) (BIndex91 : Int) (BPrev92 : Int) (BAtT93 : Int) (BAtW94 : Int) (BEpoch95 : Int) (BBody96a : Option Addr) (BBody96n : Nat) (BBody96c : Nat) (BSig97 : Int), cellsAt ww78 ((blk w.heap.size).add 8) [.int .i64 BWriter90, .int .i64 BIndex91, .int .u64 BPrev92, .int .i64 BAtT93, .int .i64 BAtW94, .int .i64 BEpoch95, .slice BBody96a BBody96n BBody96c, .int .u64 BSig97] 0 ∧
  Calls Try.prog 60 #[.agg #[.int .i64 AWriter82, .int .i64 AIndex83, .int .u64 APrev84, .int .i64 AAtT85, .int .i64 AAtW86, .int .i64 AEpoch87, .slice ABody88a ABody88n ABody88c, .int .u64 ASig89]] ww78 fun ee106 ww107 => ∃ (Writer98 : Int) (Index99 : Int) (Prev100 : Int) (AtT101 : Int) (AtW102 : Int) (Epoch103 : Int) (Body104a : Option Addr) (Body104n : Nat) (Body104c : Nat) (Sig105 : Int), ee106 = .returned (.agg #[.int .i64 Writer98, .int .i64 Index99, .int .u64 Prev100, .int .i64 AtT101, .int .i64 AtW102, .int .i64 Epoch103, .slice Body104a Body104n Body104c, .int .u64 Sig105]) ∧
  cellsAt ww107 ((blk w.heap.size).add 8) [.int .i64 BWriter90, .int .i64 BIndex91, .int .u64 BPrev92, .int .i64 BAtT93, .int .i64 BAtW94, .int .i64 BEpoch95, .slice BBody96a BBody96n BBody96c, .int .u64 BSig97] 0 ∧
  ww107.cell? (((blk w.heap.size).add 0).add 0) = some (.int .i64 Writer81) ∧
  ww107.cell? (a79.add 0) = some (.map m80) ∧
  Calls Try.prog 60 #[.agg #[.int .i64 BWriter90, .int .i64 BIndex91, .int .u64 BPrev92, .int .i64 BAtT93, .int .i64 BAtW94, .int .i64 BEpoch95, .slice BBody96a BBody96n BBody96c, .int .u64 BSig97]] ww107 fun ee116 ww117 => ∃ (Writer108 : Int) (Index109 : Int) (Prev110 : Int) (AtT111 : Int) (AtW112 : Int) (Epoch113 : Int) (Body114a : Option Addr) (Body114n : Nat) (Body114c : Nat) (Sig115 : Int), ee116 = .returned (.agg #[.int .i64 Writer108, .int .i64 Index109, .int .u64 Prev110, .int .i64 AtT111, .int .i64 AtW112, .int .i64 Epoch113, .slice Body114a Body114n Body114c, .int .u64 Sig115]) ∧
  ww117.cell? (((blk w.heap.size).add 0).add 0) = some (.int .i64 Writer81) ∧
  ww117.cell? (a79.add 0) = some (.map m80) ∧
  ∃ ww118 : World, (Instr.mapUpdate 138 (.map m80) (.int .i64 Writer81) (.agg #[.int .i64 Writer98, .int .i64 Index99, .int .u64 Prev100, .int .i64 AtT101, .int .i64 AtW102, .int .i64 Epoch103, .slice Body104a Body104n Body104c, .int .u64 Sig105, .int .i64 Writer108, .int .i64 Index109, .int .u64 Prev110, .int .i64 AtT111, .int .i64 AtW112, .int .i64 Epoch113, .slice Body114a Body114n Body114c, .int .u64 Sig115])).run Try.prog ww117 = .ok () ww118 ∧
  R (.int .i64 0) ww118) else (
  R (.int .i64 0) ww77)))

theorem forkcheck_Alarm_Raise.eq (a1 : Option Addr) (o2 : Option Addr) (publicv3 : Int) (pAWriter4 : Int) (pAIndex5 : Int) (pAPrev6 : Int) (pAAtT7 : Int) (pAAtW8 : Int) (pAEpoch9 : Int) (pABody10a : Option Addr) (pABody10n : Nat) (pABody10c : Nat) (pASig11 : Int) (pBWriter12 : Int) (pBIndex13 : Int) (pBPrev14 : Int) (pBAtT15 : Int) (pBAtW16 : Int) (pBEpoch17 : Int) (pBBody18a : Option Addr) (pBBody18n : Nat) (pBBody18c : Nat) (pBSig19 : Int) (R : Value → World → Prop) (w : World) : mfunc Try.prog [] 40 [.pointer a1, .pointer o2, .int .u64 publicv3, .agg #[.int .i64 pAWriter4, .int .i64 pAIndex5, .int .u64 pAPrev6, .int .i64 pAAtT7, .int .i64 pAAtW8, .int .i64 pAEpoch9, .slice pABody10a pABody10n pABody10c, .int .u64 pASig11, .int .i64 pBWriter12, .int .i64 pBIndex13, .int .u64 pBPrev14, .int .i64 pBAtT15, .int .i64 pBAtW16, .int .i64 pBEpoch17, .slice pBBody18a pBBody18n pBBody18c, .int .u64 pBSig19]] R w = forkcheck_Alarm_Raise.M a1 o2 publicv3 pAWriter4 pAIndex5 pAPrev6 pAAtT7 pAAtW8 pAEpoch9 pABody10a pABody10n pABody10c pASig11 pBWriter12 pBIndex13 pBPrev14 pBAtT15 pBAtW16 pBEpoch17 pBBody18a pBBody18n pBBody18c pBSig19 R w := by kernel_rfl
theorem forkcheck_Alarm_Raise.ok (a1 : Option Addr) (o2 : Option Addr) (publicv3 : Int) (pAWriter4 : Int) (pAIndex5 : Int) (pAPrev6 : Int) (pAAtT7 : Int) (pAAtW8 : Int) (pAEpoch9 : Int) (pABody10a : Option Addr) (pABody10n : Nat) (pABody10c : Nat) (pASig11 : Int) (pBWriter12 : Int) (pBIndex13 : Int) (pBPrev14 : Int) (pBAtT15 : Int) (pBAtW16 : Int) (pBEpoch17 : Int) (pBBody18a : Option Addr) (pBBody18n : Nat) (pBBody18c : Nat) (pBSig19 : Int) {R : Value → World → Prop} {w : World} (h : forkcheck_Alarm_Raise.M a1 o2 publicv3 pAWriter4 pAIndex5 pAPrev6 pAAtT7 pAAtW8 pAEpoch9 pABody10a pABody10n pABody10c pASig11 pBWriter12 pBIndex13 pBPrev14 pBAtT15 pBAtW16 pBEpoch17 pBBody18a pBBody18n pBBody18c pBSig19 R w) : Calls Try.prog 40 #[.pointer a1, .pointer o2, .int .u64 publicv3, .agg #[.int .i64 pAWriter4, .int .i64 pAIndex5, .int .u64 pAPrev6, .int .i64 pAAtT7, .int .i64 pAAtW8, .int .i64 pAEpoch9, .slice pABody10a pABody10n pABody10c, .int .u64 pASig11, .int .i64 pBWriter12, .int .i64 pBIndex13, .int .u64 pBPrev14, .int .i64 pBAtT15, .int .i64 pBAtW16, .int .i64 pBEpoch17, .slice pBBody18a pBBody18n pBBody18c, .int .u64 pBSig19]] w fun e w' => ∃ v, e = .returned v ∧ R v w' :=
  mfunc_ok follows (H := []) (args := [.pointer a1, .pointer o2, .int .u64 publicv3, .agg #[.int .i64 pAWriter4, .int .i64 pAIndex5, .int .u64 pAPrev6, .int .i64 pAAtT7, .int .i64 pAAtW8, .int .i64 pAEpoch9, .slice pABody10a pABody10n pABody10c, .int .u64 pASig11, .int .i64 pBWriter12, .int .i64 pBIndex13, .int .u64 pBPrev14, .int .i64 pBAtT15, .int .i64 pBAtW16, .int .i64 pBEpoch17, .slice pBBody18a pBBody18n pBBody18c, .int .u64 pBSig19]]) (by rw [forkcheck_Alarm_Raise.eq]; exact h)

def forkcheck_Alarm_Raise.N (a1 : Option Addr) (o2 : Option Addr) (publicv3 : Int) (pAWriter4 : Int) (pAIndex5 : Int) (pAPrev6 : Int) (pAAtT7 : Int) (pAAtW8 : Int) (pAEpoch9 : Int) (pABody10a : Option Addr) (pABody10n : Nat) (pABody10c : Nat) (pASig11 : Int) (pBWriter12 : Int) (pBIndex13 : Int) (pBPrev14 : Int) (pBAtT15 : Int) (pBAtW16 : Int) (pBEpoch17 : Int) (pBBody18a : Option Addr) (pBBody18n : Nat) (pBBody18c : Nat) (pBSig19 : Int) (R : Value → World → Prop) (w : World) : Prop :=
  (a1 = none →
    ∀ (ww20 : World), Ext no w ww20 →
    R (.int .i64 23) ww20) ∧
  (a1 ≠ none →
    ∀ (ww20 : World) (p23 : Nat), Ext no w ww20 → Priv w ww20 [p23] →
    Calls Try.prog 16 #[.pointer o2, .int .u64 publicv3, .agg #[.int .i64 pAWriter4, .int .i64 pAIndex5, .int .u64 pAPrev6, .int .i64 pAAtT7, .int .i64 pAAtW8, .int .i64 pAEpoch9, .slice pABody10a pABody10n pABody10c, .int .u64 pASig11, .int .i64 pBWriter12, .int .i64 pBIndex13, .int .u64 pBPrev14, .int .i64 pBAtT15, .int .i64 pBAtW16, .int .i64 pBEpoch17, .slice pBBody18a pBBody18n pBBody18c, .int .u64 pBSig19]] ww20 fun ee25 ww26 => ∃ (check24 : Int), ee25 = .returned (.int .i64 check24) ∧
    Keep [p23] ww20 ww26 ∧
    (check24 ≠ 0 →
      R (.int .i64 check24) ww26) ∧
    (check24 = 0 →
      ∃ a29 : Addr, a1 = some a29 ∧
      ∃ (m31 : Option Nat), ww26.cell? (a29.add 0) = some (.map m31) ∧
      ∀ (ww28 : World), Ext no ww26 ww28 →
      ∃ (AWriter32 : Int) (AIndex33 : Int) (APrev34 : Int) (AAtT35 : Int) (AAtW36 : Int) (AEpoch37 : Int) (ABody38a : Option Addr) (ABody38n : Nat) (ABody38c : Nat) (ASig39 : Int) (BWriter40 : Int) (BIndex41 : Int) (BPrev42 : Int) (BAtT43 : Int) (BAtW44 : Int) (BEpoch45 : Int) (BBody46a : Option Addr) (BBody46n : Nat) (BBody46c : Nat) (BSig47 : Int) (v48 : Bool), (Instr.lookup 138 (.map m31) (.int .i64 pAWriter4) true).run Try.prog ww28 = .ok (.tuple #[.agg #[.int .i64 AWriter32, .int .i64 AIndex33, .int .u64 APrev34, .int .i64 AAtT35, .int .i64 AAtW36, .int .i64 AEpoch37, .slice ABody38a ABody38n ABody38c, .int .u64 ASig39, .int .i64 BWriter40, .int .i64 BIndex41, .int .u64 BPrev42, .int .i64 BAtT43, .int .i64 BAtW44, .int .i64 BEpoch45, .slice BBody46a BBody46n BBody46c, .int .u64 BSig47], .bool v48]) ww28 ∧
      ∀ (ww50 : World) (p51 : Nat), Ext no ww28 ww50 → Priv ww28 ww50 [p51] →
      (Instr.lookup 138 (.map m31) (.int .i64 pAWriter4) true).run Try.prog ww50 = .ok (.tuple #[.agg #[.int .i64 AWriter32, .int .i64 AIndex33, .int .u64 APrev34, .int .i64 AAtT35, .int .i64 AAtW36, .int .i64 AEpoch37, .slice ABody38a ABody38n ABody38c, .int .u64 ASig39, .int .i64 BWriter40, .int .i64 BIndex41, .int .u64 BPrev42, .int .i64 BAtT43, .int .i64 BAtW44, .int .i64 BEpoch45, .slice BBody46a BBody46n BBody46c, .int .u64 BSig47], .bool v48]) ww50 ∧
      ww50.cell? (a29.add 0) = some (.map m31) ∧
      (v48 = false →
        ∀ (ww71 : World), Ext (fun b => b = p51) ww50 ww71 →
        ∃ (m73 : Option Nat), ww71.cell? (a29.add 0) = some (.map m73) ∧
        Calls Try.prog 60 #[.agg #[.int .i64 pAWriter4, .int .i64 pAIndex5, .int .u64 pAPrev6, .int .i64 pAAtT7, .int .i64 pAAtW8, .int .i64 pAEpoch9, .slice pABody10a pABody10n pABody10c, .int .u64 pASig11]] ww71 fun ee82 ww83 => ∃ (Writer74 : Int) (Index75 : Int) (Prev76 : Int) (AtT77 : Int) (AtW78 : Int) (Epoch79 : Int) (Body80a : Option Addr) (Body80n : Nat) (Body80c : Nat) (Sig81 : Int), ee82 = .returned (.agg #[.int .i64 Writer74, .int .i64 Index75, .int .u64 Prev76, .int .i64 AtT77, .int .i64 AtW78, .int .i64 Epoch79, .slice Body80a Body80n Body80c, .int .u64 Sig81]) ∧
        Keep [p23] ww71 ww83 ∧
        ww83.cell? (a29.add 0) = some (.map m73) ∧
        Calls Try.prog 60 #[.agg #[.int .i64 pBWriter12, .int .i64 pBIndex13, .int .u64 pBPrev14, .int .i64 pBAtT15, .int .i64 pBAtW16, .int .i64 pBEpoch17, .slice pBBody18a pBBody18n pBBody18c, .int .u64 pBSig19]] ww83 fun ee93 ww94 => ∃ (Writer85 : Int) (Index86 : Int) (Prev87 : Int) (AtT88 : Int) (AtW89 : Int) (Epoch90 : Int) (Body91a : Option Addr) (Body91n : Nat) (Body91c : Nat) (Sig92 : Int), ee93 = .returned (.agg #[.int .i64 Writer85, .int .i64 Index86, .int .u64 Prev87, .int .i64 AtT88, .int .i64 AtW89, .int .i64 Epoch90, .slice Body91a Body91n Body91c, .int .u64 Sig92]) ∧
        Keep [p23] ww83 ww94 ∧
        ww94.cell? (a29.add 0) = some (.map m73) ∧
        ∃ (ww96 : World), (Instr.mapUpdate 138 (.map m73) (.int .i64 pAWriter4) (.agg #[.int .i64 Writer74, .int .i64 Index75, .int .u64 Prev76, .int .i64 AtT77, .int .i64 AtW78, .int .i64 Epoch79, .slice Body80a Body80n Body80c, .int .u64 Sig81, .int .i64 Writer85, .int .i64 Index86, .int .u64 Prev87, .int .i64 AtT88, .int .i64 AtW89, .int .i64 Epoch90, .slice Body91a Body91n Body91c, .int .u64 Sig92])).run Try.prog ww94 = .ok () ww96 ∧
        R (.int .i64 0) ww96) ∧
      (v48 = true →
        ∀ (ww69 : World), Ext (fun b => b = p51) ww50 ww69 →
        R (.int .i64 0) ww69)))

theorem forkcheck_Alarm_Raise.up (a1 : Option Addr) (o2 : Option Addr) (publicv3 : Int) (pAWriter4 : Int) (pAIndex5 : Int) (pAPrev6 : Int) (pAAtT7 : Int) (pAAtW8 : Int) (pAEpoch9 : Int) (pABody10a : Option Addr) (pABody10n : Nat) (pABody10c : Nat) (pASig11 : Int) (pBWriter12 : Int) (pBIndex13 : Int) (pBPrev14 : Int) (pBAtT15 : Int) (pBAtW16 : Int) (pBEpoch17 : Int) (pBBody18a : Option Addr) (pBBody18n : Nat) (pBBody18c : Nat) (pBSig19 : Int) {R : Value → World → Prop} {w : World} (h : forkcheck_Alarm_Raise.N a1 o2 publicv3 pAWriter4 pAIndex5 pAPrev6 pAAtT7 pAAtW8 pAEpoch9 pABody10a pABody10n pABody10c pASig11 pBWriter12 pBIndex13 pBPrev14 pBAtT15 pBAtW16 pBEpoch17 pBBody18a pBBody18n pBBody18c pBSig19 R w) : forkcheck_Alarm_Raise.M a1 o2 publicv3 pAWriter4 pAIndex5 pAPrev6 pAAtT7 pAAtW8 pAEpoch9 pABody10a pABody10n pABody10c pASig11 pBWriter12 pBIndex13 pBPrev14 pBAtT15 pBAtW16 pBEpoch17 pBBody18a pBBody18n pBBody18c pBSig19 R w := by
  unfold forkcheck_Alarm_Raise.M
  unfold forkcheck_Alarm_Raise.N at h
  refine thenW_in fun ww20 e20 => ?_
  have hb1 := Blk.of_new e20
  have hg1 := ((Ext.refl no w)).size
  have hx20 := (Ext.refl no w).x_alloc e20
  refine bif_of (fun c21 => ?_) (fun c21 => ?_)
  · have h := h.1 (isNone_t c21)
    have h := h ww20 hx20
    exact h
  · have h := h.2 (isNone_f c21)
    refine ⟨pAWriter4, pAIndex5, pAPrev6, pAAtT7, pAAtW8, pAEpoch9, pABody10a, pABody10n, pABody10c, pASig11, pBWriter12, pBIndex13, pBPrev14, pBAtT15, pBAtW16, pBEpoch17, pBBody18a, pBBody18n, pBBody18c, pBSig19, ⟨hb1.celli 0 rfl rfl, hb1.celli 1 rfl rfl, hb1.celli 2 rfl rfl, hb1.celli 3 rfl rfl, hb1.celli 4 rfl rfl, hb1.celli 5 rfl rfl, hb1.celli 6 rfl rfl, hb1.celli 7 rfl rfl, hb1.celli 8 rfl rfl, hb1.celli 9 rfl rfl, hb1.celli 10 rfl rfl, hb1.celli 11 rfl rfl, hb1.celli 12 rfl rfl, hb1.celli 13 rfl rfl, hb1.celli 14 rfl rfl, hb1.celli 15 rfl rfl, trivial⟩, ?_⟩
    have h := h ww20 (w.heap.size) hx20 (Priv.cons hg1 hb1.lt Priv.nil)
    refine h.mono fun ee25 ww26 h => ?_
    obtain ⟨check24, he, hk, h⟩ := h
    refine ⟨check24, he, ?_⟩
    have hb1 := hk.blk hb1 (by simp)
    refine bif_of (fun c27 => ?_) (fun c27 => ?_)
    · have h := h.1 (bne_t c27)
      exact h
    · have h := h.2 (bne_f c27)
      refine thenW_in fun ww28 e28 => ?_
      have hx28 := (Ext.refl no ww26).x_drew e28
      have hb1 := hb1.x_drew e28
      obtain ⟨a29, ha29, h⟩ := h
      refine elim_some ha29 ?_
      obtain ⟨m31, hc30, h⟩ := h
      refine ⟨m31, (hx28).cell hc30 id, ?_⟩
      refine ⟨pAWriter4, hb1.celli 0 rfl rfl, ?_⟩
      have h := h ww28 hx28
      obtain ⟨AWriter32, AIndex33, APrev34, AAtT35, AAtW36, AEpoch37, ABody38a, ABody38n, ABody38c, ASig39, BWriter40, BIndex41, BPrev42, BAtT43, BAtW44, BEpoch45, BBody46a, BBody46n, BBody46c, BSig47, v48, hs49, h⟩ := h
      refine ⟨AWriter32, AIndex33, APrev34, AAtT35, AAtW36, AEpoch37, ABody38a, ABody38n, ABody38c, ASig39, BWriter40, BIndex41, BPrev42, BAtT43, BAtW44, BEpoch45, BBody46a, BBody46n, BBody46c, BSig47, v48, hs49, ?_⟩
      refine thenW_in fun ww50 e50 => ?_
      have hb2 := Blk.of_new e50
      have hg2 := ((Ext.refl no ww28)).size
      have hb1_2 := Nat.ne_of_lt hb1.lt
      have hb1 := hb1.x_alloc e50
      have hx50 := (Ext.refl no ww28).x_alloc e50
      have h := h ww50 (ww28.heap.size) hx50 (Priv.cons hg2 hb2.lt Priv.nil)
      obtain ⟨ho52, ho53, h⟩ := h
      refine ⟨ho52, hb1.celli 0 rfl rfl, ho53, ?_⟩
      have hm69 : Ext (fun b => b = ww28.heap.size) ww50 ww50 := ((Ext.refl no ww50)).none
      refine ⟨hb2.cani 0 rfl rfl, thenW_in fun ww54 e54 => ?_⟩
      have hx54 := hm69.x_set (q := ww28.heap.size) (i := 0) rfl (.inl rfl) e54
      have hb1 := hb1.oth (q := ww28.heap.size) (i := 0) rfl hb1_2 e54
      have hb2 := hb2.seti 0 rfl e54
      refine ⟨hb2.cani 1 rfl rfl, thenW_in fun ww55 e55 => ?_⟩
      have hx55 := hx54.x_set (q := ww28.heap.size) (i := 1) rfl (.inl rfl) e55
      have hb1 := hb1.oth (q := ww28.heap.size) (i := 1) rfl hb1_2 e55
      have hb2 := hb2.seti 1 rfl e55
      refine ⟨hb2.cani 2 rfl rfl, thenW_in fun ww56 e56 => ?_⟩
      have hx56 := hx55.x_set (q := ww28.heap.size) (i := 2) rfl (.inl rfl) e56
      have hb1 := hb1.oth (q := ww28.heap.size) (i := 2) rfl hb1_2 e56
      have hb2 := hb2.seti 2 rfl e56
      refine ⟨hb2.cani 3 rfl rfl, thenW_in fun ww57 e57 => ?_⟩
      have hx57 := hx56.x_set (q := ww28.heap.size) (i := 3) rfl (.inl rfl) e57
      have hb1 := hb1.oth (q := ww28.heap.size) (i := 3) rfl hb1_2 e57
      have hb2 := hb2.seti 3 rfl e57
      refine ⟨hb2.cani 4 rfl rfl, thenW_in fun ww58 e58 => ?_⟩
      have hx58 := hx57.x_set (q := ww28.heap.size) (i := 4) rfl (.inl rfl) e58
      have hb1 := hb1.oth (q := ww28.heap.size) (i := 4) rfl hb1_2 e58
      have hb2 := hb2.seti 4 rfl e58
      refine ⟨hb2.cani 5 rfl rfl, thenW_in fun ww59 e59 => ?_⟩
      have hx59 := hx58.x_set (q := ww28.heap.size) (i := 5) rfl (.inl rfl) e59
      have hb1 := hb1.oth (q := ww28.heap.size) (i := 5) rfl hb1_2 e59
      have hb2 := hb2.seti 5 rfl e59
      refine ⟨hb2.cani 6 rfl rfl, thenW_in fun ww60 e60 => ?_⟩
      have hx60 := hx59.x_set (q := ww28.heap.size) (i := 6) rfl (.inl rfl) e60
      have hb1 := hb1.oth (q := ww28.heap.size) (i := 6) rfl hb1_2 e60
      have hb2 := hb2.seti 6 rfl e60
      refine ⟨hb2.cani 7 rfl rfl, thenW_in fun ww61 e61 => ?_⟩
      have hx61 := hx60.x_set (q := ww28.heap.size) (i := 7) rfl (.inl rfl) e61
      have hb1 := hb1.oth (q := ww28.heap.size) (i := 7) rfl hb1_2 e61
      have hb2 := hb2.seti 7 rfl e61
      refine ⟨hb2.cani 8 rfl rfl, thenW_in fun ww62 e62 => ?_⟩
      have hx62 := hx61.x_set (q := ww28.heap.size) (i := 8) rfl (.inl rfl) e62
      have hb1 := hb1.oth (q := ww28.heap.size) (i := 8) rfl hb1_2 e62
      have hb2 := hb2.seti 8 rfl e62
      refine ⟨hb2.cani 9 rfl rfl, thenW_in fun ww63 e63 => ?_⟩
      have hx63 := hx62.x_set (q := ww28.heap.size) (i := 9) rfl (.inl rfl) e63
      have hb1 := hb1.oth (q := ww28.heap.size) (i := 9) rfl hb1_2 e63
      have hb2 := hb2.seti 9 rfl e63
      refine ⟨hb2.cani 10 rfl rfl, thenW_in fun ww64 e64 => ?_⟩
      have hx64 := hx63.x_set (q := ww28.heap.size) (i := 10) rfl (.inl rfl) e64
      have hb1 := hb1.oth (q := ww28.heap.size) (i := 10) rfl hb1_2 e64
      have hb2 := hb2.seti 10 rfl e64
      refine ⟨hb2.cani 11 rfl rfl, thenW_in fun ww65 e65 => ?_⟩
      have hx65 := hx64.x_set (q := ww28.heap.size) (i := 11) rfl (.inl rfl) e65
      have hb1 := hb1.oth (q := ww28.heap.size) (i := 11) rfl hb1_2 e65
      have hb2 := hb2.seti 11 rfl e65
      refine ⟨hb2.cani 12 rfl rfl, thenW_in fun ww66 e66 => ?_⟩
      have hx66 := hx65.x_set (q := ww28.heap.size) (i := 12) rfl (.inl rfl) e66
      have hb1 := hb1.oth (q := ww28.heap.size) (i := 12) rfl hb1_2 e66
      have hb2 := hb2.seti 12 rfl e66
      refine ⟨hb2.cani 13 rfl rfl, thenW_in fun ww67 e67 => ?_⟩
      have hx67 := hx66.x_set (q := ww28.heap.size) (i := 13) rfl (.inl rfl) e67
      have hb1 := hb1.oth (q := ww28.heap.size) (i := 13) rfl hb1_2 e67
      have hb2 := hb2.seti 13 rfl e67
      refine ⟨hb2.cani 14 rfl rfl, thenW_in fun ww68 e68 => ?_⟩
      have hx68 := hx67.x_set (q := ww28.heap.size) (i := 14) rfl (.inl rfl) e68
      have hb1 := hb1.oth (q := ww28.heap.size) (i := 14) rfl hb1_2 e68
      have hb2 := hb2.seti 14 rfl e68
      refine ⟨hb2.cani 15 rfl rfl, thenW_in fun ww69 e69 => ?_⟩
      have hx69 := hx68.x_set (q := ww28.heap.size) (i := 15) rfl (.inl rfl) e69
      have hb1 := hb1.oth (q := ww28.heap.size) (i := 15) rfl hb1_2 e69
      have hb2 := hb2.seti 15 rfl e69
      refine bif_of (fun c70 => ?_) (fun c70 => ?_)
      · have h := h.1 (not_t c70)
        refine thenW_in fun ww71 e71 => ?_
        have hx71 := hx69.x_drew e71
        have hb1 := hb1.x_drew e71
        refine elim_some ha29 ?_
        have h := h ww71 hx71
        obtain ⟨m73, hc72, h⟩ := h
        refine ⟨m73, hc72, ?_⟩
        refine ⟨pAWriter4, hb1.celli 0 rfl rfl, ?_⟩
        refine ⟨pAWriter4, pAIndex5, pAPrev6, pAAtT7, pAAtW8, pAEpoch9, pABody10a, pABody10n, pABody10c, pASig11, ⟨hb1.celli 0 rfl rfl, hb1.celli 1 rfl rfl, hb1.celli 2 rfl rfl, hb1.celli 3 rfl rfl, hb1.celli 4 rfl rfl, hb1.celli 5 rfl rfl, hb1.celli 6 rfl rfl, hb1.celli 7 rfl rfl, trivial⟩, ?_⟩
        refine ⟨pBWriter12, pBIndex13, pBPrev14, pBAtT15, pBAtW16, pBEpoch17, pBBody18a, pBBody18n, pBBody18c, pBSig19, ⟨hb1.celli 8 rfl rfl, hb1.celli 9 rfl rfl, hb1.celli 10 rfl rfl, hb1.celli 11 rfl rfl, hb1.celli 12 rfl rfl, hb1.celli 13 rfl rfl, hb1.celli 14 rfl rfl, hb1.celli 15 rfl rfl, trivial⟩, ?_⟩
        refine h.mono fun ee82 ww83 h => ?_
        obtain ⟨Writer74, Index75, Prev76, AtT77, AtW78, Epoch79, Body80a, Body80n, Body80c, Sig81, he, hk, h⟩ := h
        refine ⟨Writer74, Index75, Prev76, AtT77, AtW78, Epoch79, Body80a, Body80n, Body80c, Sig81, he, ?_⟩
        have hb1 := hk.blk hb1 (by simp)
        obtain ⟨ho84, h⟩ := h
        refine ⟨⟨hb1.celli 8 rfl rfl, hb1.celli 9 rfl rfl, hb1.celli 10 rfl rfl, hb1.celli 11 rfl rfl, hb1.celli 12 rfl rfl, hb1.celli 13 rfl rfl, hb1.celli 14 rfl rfl, hb1.celli 15 rfl rfl, trivial⟩, hb1.celli 0 rfl rfl, ho84, ?_⟩
        refine h.mono fun ee93 ww94 h => ?_
        obtain ⟨Writer85, Index86, Prev87, AtT88, AtW89, Epoch90, Body91a, Body91n, Body91c, Sig92, he, hk, h⟩ := h
        refine ⟨Writer85, Index86, Prev87, AtT88, AtW89, Epoch90, Body91a, Body91n, Body91c, Sig92, he, ?_⟩
        have hb1 := hk.blk hb1 (by simp)
        obtain ⟨ho95, h⟩ := h
        refine ⟨hb1.celli 0 rfl rfl, ho95, ?_⟩
        obtain ⟨ww96, hr, h⟩ := h
        refine ⟨ww96, hr, ?_⟩
        exact h
      · have h := h.2 (not_f c70)
        have h := h ww69 hx69
        exact h

theorem forkcheck_Alarm_Raise.go (a1 : Option Addr) (o2 : Option Addr) (publicv3 : Int) (pAWriter4 : Int) (pAIndex5 : Int) (pAPrev6 : Int) (pAAtT7 : Int) (pAAtW8 : Int) (pAEpoch9 : Int) (pABody10a : Option Addr) (pABody10n : Nat) (pABody10c : Nat) (pASig11 : Int) (pBWriter12 : Int) (pBIndex13 : Int) (pBPrev14 : Int) (pBAtT15 : Int) (pBAtW16 : Int) (pBEpoch17 : Int) (pBBody18a : Option Addr) (pBBody18n : Nat) (pBBody18c : Nat) (pBSig19 : Int) {R : Value → World → Prop} {w : World} (h : forkcheck_Alarm_Raise.N a1 o2 publicv3 pAWriter4 pAIndex5 pAPrev6 pAAtT7 pAAtW8 pAEpoch9 pABody10a pABody10n pABody10c pASig11 pBWriter12 pBIndex13 pBPrev14 pBAtT15 pBAtW16 pBEpoch17 pBBody18a pBBody18n pBBody18c pBSig19 R w) : Calls Try.prog 40 #[.pointer a1, .pointer o2, .int .u64 publicv3, .agg #[.int .i64 pAWriter4, .int .i64 pAIndex5, .int .u64 pAPrev6, .int .i64 pAAtT7, .int .i64 pAAtW8, .int .i64 pAEpoch9, .slice pABody10a pABody10n pABody10c, .int .u64 pASig11, .int .i64 pBWriter12, .int .i64 pBIndex13, .int .u64 pBPrev14, .int .i64 pBAtT15, .int .i64 pBAtW16, .int .i64 pBEpoch17, .slice pBBody18a pBBody18n pBBody18c, .int .u64 pBSig19]] w fun e w' => ∃ v, e = .returned v ∧ R v w' := forkcheck_Alarm_Raise.ok a1 o2 publicv3 pAWriter4 pAIndex5 pAPrev6 pAAtT7 pAAtW8 pAEpoch9 pABody10a pABody10n pABody10c pASig11 pBWriter12 pBIndex13 pBPrev14 pBAtT15 pBAtW16 pBEpoch17 pBBody18a pBBody18n pBBody18c pBSig19 (forkcheck_Alarm_Raise.up a1 o2 publicv3 pAWriter4 pAIndex5 pAPrev6 pAAtT7 pAAtW8 pAEpoch9 pABody10a pABody10n pABody10c pASig11 pBWriter12 pBIndex13 pBPrev14 pBAtT15 pBAtW16 pBEpoch17 pBBody18a pBBody18n pBBody18c pBSig19 h)
theorem forkcheck_Alarm_Raise.run (a1 : Option Addr) (o2 : Option Addr) (publicv3 : Int) (pAWriter4 : Int) (pAIndex5 : Int) (pAPrev6 : Int) (pAAtT7 : Int) (pAAtW8 : Int) (pAEpoch9 : Int) (pABody10a : Option Addr) (pABody10n : Nat) (pABody10c : Nat) (pASig11 : Int) (pBWriter12 : Int) (pBIndex13 : Int) (pBPrev14 : Int) (pBAtT15 : Int) (pBAtW16 : Int) (pBEpoch17 : Int) (pBBody18a : Option Addr) (pBBody18n : Nat) (pBBody18c : Nat) (pBSig19 : Int) {V : Value} {Q : World → Prop} {w : World} (h : forkcheck_Alarm_Raise.N a1 o2 publicv3 pAWriter4 pAIndex5 pAPrev6 pAAtT7 pAAtW8 pAEpoch9 pABody10a pABody10n pABody10c pASig11 pBWriter12 pBIndex13 pBPrev14 pBAtT15 pBAtW16 pBEpoch17 pBBody18a pBBody18n pBBody18c pBSig19 (fun v w' => v = V ∧ Q w') w) : Calls Try.prog 40 #[.pointer a1, .pointer o2, .int .u64 publicv3, .agg #[.int .i64 pAWriter4, .int .i64 pAIndex5, .int .u64 pAPrev6, .int .i64 pAAtT7, .int .i64 pAAtW8, .int .i64 pAEpoch9, .slice pABody10a pABody10n pABody10c, .int .u64 pASig11, .int .i64 pBWriter12, .int .i64 pBIndex13, .int .u64 pBPrev14, .int .i64 pBAtT15, .int .i64 pBAtW16, .int .i64 pBEpoch17, .slice pBBody18a pBBody18n pBBody18c, .int .u64 pBSig19]] w (Ret V Q) := (forkcheck_Alarm_Raise.go a1 o2 publicv3 pAWriter4 pAIndex5 pAPrev6 pAAtT7 pAAtW8 pAEpoch9 pABody10a pABody10n pABody10c pASig11 pBWriter12 pBIndex13 pBPrev14 pBAtT15 pBAtW16 pBEpoch17 pBBody18a pBBody18n pBBody18c pBSig19 h).mono fun e w' ⟨v, he, hv, hq⟩ => ⟨by rw [he, hv], hq⟩

/-- (*forkcheck.Alarm).On -/
def forkcheck_Alarm_On.M (a1 : Option Addr) (R : Value → World → Prop) (w : World) : Prop :=
  bif !(Option.isNone a1) then (
  a1.elim False fun a2 =>
  ∃ (m3 : Option Nat), w.cell? (a2.add 0) = some (.map m3) ∧
  ∃ (n4 : Int), (Builtin.len_ #[138] 3 #[.map m3]).run Try.prog w = .ok (.int .i64 n4) w ∧
  R (.bool (decide (n4 > 0))) w) else (
  R (.bool false) w)

theorem forkcheck_Alarm_On.eq (a1 : Option Addr) (R : Value → World → Prop) (w : World) : mfunc Try.prog [] 43 [.pointer a1] R w = forkcheck_Alarm_On.M a1 R w := by kernel_rfl
theorem forkcheck_Alarm_On.ok (a1 : Option Addr) {R : Value → World → Prop} {w : World} (h : forkcheck_Alarm_On.M a1 R w) : Calls Try.prog 43 #[.pointer a1] w fun e w' => ∃ v, e = .returned v ∧ R v w' :=
  mfunc_ok follows (H := []) (args := [.pointer a1]) (by rw [forkcheck_Alarm_On.eq]; exact h)

def forkcheck_Alarm_On.N (a1 : Option Addr) (R : Value → World → Prop) (w : World) : Prop :=
  (a1 ≠ none →
    ∃ a3 : Addr, a1 = some a3 ∧
    ∃ (m5 : Option Nat), w.cell? (a3.add 0) = some (.map m5) ∧
    ∃ (n6 : Int), (Builtin.len_ #[138] 3 #[.map m5]).run Try.prog w = .ok (.int .i64 n6) w ∧
    R (.bool (decide (n6 > 0))) w) ∧
  (a1 = none →
    R (.bool false) w)

theorem forkcheck_Alarm_On.up (a1 : Option Addr) {R : Value → World → Prop} {w : World} (h : forkcheck_Alarm_On.N a1 R w) : forkcheck_Alarm_On.M a1 R w := by
  unfold forkcheck_Alarm_On.M
  unfold forkcheck_Alarm_On.N at h
  refine bif_of (fun c2 => ?_) (fun c2 => ?_)
  · have h := h.1 (isNone_f (not_t c2))
    obtain ⟨a3, ha3, h⟩ := h
    refine elim_some ha3 ?_
    obtain ⟨m5, hc4, h⟩ := h
    refine ⟨m5, hc4, ?_⟩
    obtain ⟨n6, hs7, h⟩ := h
    refine ⟨n6, hs7, ?_⟩
    exact h
  · have h := h.2 (isNone_t (not_f c2))
    exact h

theorem forkcheck_Alarm_On.go (a1 : Option Addr) {R : Value → World → Prop} {w : World} (h : forkcheck_Alarm_On.N a1 R w) : Calls Try.prog 43 #[.pointer a1] w fun e w' => ∃ v, e = .returned v ∧ R v w' := forkcheck_Alarm_On.ok a1 (forkcheck_Alarm_On.up a1 h)
theorem forkcheck_Alarm_On.run (a1 : Option Addr) {V : Value} {Q : World → Prop} {w : World} (h : forkcheck_Alarm_On.N a1 (fun v w' => v = V ∧ Q w') w) : Calls Try.prog 43 #[.pointer a1] w (Ret V Q) := (forkcheck_Alarm_On.go a1 h).mono fun e w' ⟨v, he, hv, hq⟩ => ⟨by rw [he, hv], hq⟩

/-- cachettelaw23.alive -/
def cachettelaw23_alive.M  (R : Value → World → Prop) (w : World) : Prop :=
  Calls Try.prog 10 #[.slice none 0 0] w fun ee2 ww3 => ∃ (new1 : Option Addr), ee2 = .returned (.pointer new1) ∧
  Calls Try.prog 11 #[.pointer new1] ww3 fun ee6 ww7 => ∃ (pair4 : Int) (pair5 : Int), ee6 = .returned (.tuple #[.int .u64 pair4, .int .u64 pair5]) ∧
  thenW (ww7.alloc (.cells #[.int .u8 120] 5)) fun ww8 =>
  ∃ (c9a : Option Addr) (c9n : Nat) (c9c : Nat) (ww10 : World), (convert 26 26 (.slice (some (blk ww7.heap.size)) 1 1)).run Try.prog ww8 = .ok (.slice c9a c9n c9c) ww10 ∧
  Calls Try.prog 13 #[.pointer new1, .int .u64 pair4, .agg #[.int .i64 0, .int .i64 0, .int .u64 0, .int .i64 1, .int .i64 0, .int .i64 0, .slice c9a c9n c9c, .int .u64 0]] ww10 fun ee20 ww21 => ∃ (Writer11 : Int) (Index12 : Int) (Prev13 : Int) (AtT14 : Int) (AtW15 : Int) (Epoch16 : Int) (Body17a : Option Addr) (Body17n : Nat) (Body17c : Nat) (Sig18 : Int) (sign19 : Int), ee20 = .returned (.tuple #[.agg #[.int .i64 Writer11, .int .i64 Index12, .int .u64 Prev13, .int .i64 AtT14, .int .i64 AtW15, .int .i64 Epoch16, .slice Body17a Body17n Body17c, .int .u64 Sig18], .int .i64 sign19]) ∧
  thenW (ww21.alloc (.cells #[.int .i64 0, .int .i64 0, .int .u64 0, .int .i64 0, .int .i64 0, .int .i64 0, .slice none 0 0, .int .u64 0] 28)) fun ww22 =>
  canStore ww22 ((blk ww21.heap.size).add 0) ∧
  thenW (ww22.setCell ((blk ww21.heap.size).add 0) (.int .i64 Writer11)) fun ww23 =>
  canStore ww23 ((blk ww21.heap.size).add 1) ∧
  thenW (ww23.setCell ((blk ww21.heap.size).add 1) (.int .i64 Index12)) fun ww24 =>
  canStore ww24 ((blk ww21.heap.size).add 2) ∧
  thenW (ww24.setCell ((blk ww21.heap.size).add 2) (.int .u64 Prev13)) fun ww25 =>
  canStore ww25 ((blk ww21.heap.size).add 3) ∧
  thenW (ww25.setCell ((blk ww21.heap.size).add 3) (.int .i64 AtT14)) fun ww26 =>
  canStore ww26 ((blk ww21.heap.size).add 4) ∧
  thenW (ww26.setCell ((blk ww21.heap.size).add 4) (.int .i64 AtW15)) fun ww27 =>
  canStore ww27 ((blk ww21.heap.size).add 5) ∧
  thenW (ww27.setCell ((blk ww21.heap.size).add 5) (.int .i64 Epoch16)) fun ww28 =>
  canStore ww28 ((blk ww21.heap.size).add 6) ∧
  thenW (ww28.setCell ((blk ww21.heap.size).add 6) (.slice Body17a Body17n Body17c)) fun ww29 =>
  canStore ww29 ((blk ww21.heap.size).add 7) ∧
  thenW (ww29.setCell ((blk ww21.heap.size).add 7) (.int .u64 Sig18)) fun ww30 =>
  thenW (ww30.alloc (.cells #[.int .u8 121] 5)) fun ww31 =>
  ∃ (c32a : Option Addr) (c32n : Nat) (c32c : Nat) (ww33 : World), (convert 26 26 (.slice (some (blk ww30.heap.size)) 1 1)).run Try.prog ww31 = .ok (.slice c32a c32n c32c) ww33 ∧
  Calls Try.prog 13 #[.pointer new1, .int .u64 pair4, .agg #[.int .i64 0, .int .i64 0, .int .u64 0, .int .i64 1, .int .i64 0, .int .i64 0, .slice c32a c32n c32c, .int .u64 0]] ww33 fun ee43 ww44 => ∃ (Writer34 : Int) (Index35 : Int) (Prev36 : Int) (AtT37 : Int) (AtW38 : Int) (Epoch39 : Int) (Body40a : Option Addr) (Body40n : Nat) (Body40c : Nat) (Sig41 : Int) (sign42 : Int), ee43 = .returned (.tuple #[.agg #[.int .i64 Writer34, .int .i64 Index35, .int .u64 Prev36, .int .i64 AtT37, .int .i64 AtW38, .int .i64 Epoch39, .slice Body40a Body40n Body40c, .int .u64 Sig41], .int .i64 sign42]) ∧
  thenW (ww44.alloc (.cells #[.int .i64 0, .int .i64 0, .int .u64 0, .int .i64 0, .int .i64 0, .int .i64 0, .slice none 0 0, .int .u64 0] 28)) fun ww45 =>
  canStore ww45 ((blk ww44.heap.size).add 0) ∧
  thenW (ww45.setCell ((blk ww44.heap.size).add 0) (.int .i64 Writer34)) fun ww46 =>
  canStore ww46 ((blk ww44.heap.size).add 1) ∧
  thenW (ww46.setCell ((blk ww44.heap.size).add 1) (.int .i64 Index35)) fun ww47 =>
  canStore ww47 ((blk ww44.heap.size).add 2) ∧
  thenW (ww47.setCell ((blk ww44.heap.size).add 2) (.int .u64 Prev36)) fun ww48 =>
  canStore ww48 ((blk ww44.heap.size).add 3) ∧
  thenW (ww48.setCell ((blk ww44.heap.size).add 3) (.int .i64 AtT37)) fun ww49 =>
  canStore ww49 ((blk ww44.heap.size).add 4) ∧
  thenW (ww49.setCell ((blk ww44.heap.size).add 4) (.int .i64 AtW38)) fun ww50 =>
  canStore ww50 ((blk ww44.heap.size).add 5) ∧
  thenW (ww50.setCell ((blk ww44.heap.size).add 5) (.int .i64 Epoch39)) fun ww51 =>
  canStore ww51 ((blk ww44.heap.size).add 6) ∧
  thenW (ww51.setCell ((blk ww44.heap.size).add 6) (.slice Body40a Body40n Body40c)) fun ww52 =>
  canStore ww52 ((blk ww44.heap.size).add 7) ∧
  thenW (ww52.setCell ((blk ww44.heap.size).add 7) (.int .u64 Sig41)) fun ww53 =>
  Calls Try.prog 39 #[] ww53 fun ee55 ww56 => ∃ (newalarm54 : Option Addr), ee55 = .returned (.pointer newalarm54) ∧
  ∃ (xWriter57 : Int) (xIndex58 : Int) (xPrev59 : Int) (xAtT60 : Int) (xAtW61 : Int) (xEpoch62 : Int) (xBody63a : Option Addr) (xBody63n : Nat) (xBody63c : Nat) (xSig64 : Int), cellsAt ww56 (blk ww21.heap.size) [.int .i64 xWriter57, .int .i64 xIndex58, .int .u64 xPrev59, .int .i64 xAtT60, .int .i64 xAtW61, .int .i64 xEpoch62, .slice xBody63a xBody63n xBody63c, .int .u64 xSig64] 0 ∧
  ∃ (xWriter65 : Int) (xIndex66 : Int) (xPrev67 : Int) (xAtT68 : Int) (xAtW69 : Int) (xEpoch70 : Int) (xBody71a : Option Addr) (xBody71n : Nat) (xBody71c : Nat) (xSig72 : Int), cellsAt ww56 (blk ww44.heap.size) [.int .i64 xWriter65, .int .i64 xIndex66, .int .u64 xPrev67, .int .i64 xAtT68, .int .i64 xAtW69, .int .i64 xEpoch70, .slice xBody71a xBody71n xBody71c, .int .u64 xSig72] 0 ∧
  Calls Try.prog 40 #[.pointer newalarm54, .pointer new1, .int .u64 pair5, .agg #[.int .i64 xWriter57, .int .i64 xIndex58, .int .u64 xPrev59, .int .i64 xAtT60, .int .i64 xAtW61, .int .i64 xEpoch62, .slice xBody63a xBody63n xBody63c, .int .u64 xSig64, .int .i64 xWriter65, .int .i64 xIndex66, .int .u64 xPrev67, .int .i64 xAtT68, .int .i64 xAtW69, .int .i64 xEpoch70, .slice xBody71a xBody71n xBody71c, .int .u64 xSig72]] ww56 fun ee74 ww75 => ∃ (raise73 : Int), ee74 = .returned (.int .i64 raise73) ∧
  bif sign19 == 0 then (
  bif sign42 == 0 then (
  bif raise73 == 0 then (
  Calls Try.prog 43 #[.pointer newalarm54] ww75 fun ee77 ww78 => ∃ (on76 : Bool), ee77 = .returned (.bool on76) ∧
  bif on76 then (
  ∃ (xWriter79 : Int) (xIndex80 : Int) (xPrev81 : Int) (xAtT82 : Int) (xAtW83 : Int) (xEpoch84 : Int) (xBody85a : Option Addr) (xBody85n : Nat) (xBody85c : Nat) (xSig86 : Int), cellsAt ww78 (blk ww21.heap.size) [.int .i64 xWriter79, .int .i64 xIndex80, .int .u64 xPrev81, .int .i64 xAtT82, .int .i64 xAtW83, .int .i64 xEpoch84, .slice xBody85a xBody85n xBody85c, .int .u64 xSig86] 0 ∧
  ∃ (xWriter87 : Int) (xIndex88 : Int) (xPrev89 : Int) (xAtT90 : Int) (xAtW91 : Int) (xEpoch92 : Int) (xBody93a : Option Addr) (xBody93n : Nat) (xBody93c : Nat) (xSig94 : Int), cellsAt ww78 (blk ww21.heap.size) [.int .i64 xWriter87, .int .i64 xIndex88, .int .u64 xPrev89, .int .i64 xAtT90, .int .i64 xAtW91, .int .i64 xEpoch92, .slice xBody93a xBody93n xBody93c, .int .u64 xSig94] 0 ∧
  Calls Try.prog 16 #[.pointer new1, .int .u64 pair5, .agg #[.int .i64 xWriter79, .int .i64 xIndex80, .int .u64 xPrev81, .int .i64 xAtT82, .int .i64 xAtW83, .int .i64 xEpoch84, .slice xBody85a xBody85n xBody85c, .int .u64 xSig86, .int .i64 xWriter87, .int .i64 xIndex88, .int .u64 xPrev89, .int .i64 xAtT90, .int .i64 xAtW91, .int .i64 xEpoch92, .slice xBody93a xBody93n xBody93c, .int .u64 xSig94]] ww78 fun ee96 ww97 => ∃ (check95 : Int), ee96 = .returned (.int .i64 check95) ∧
  R (.bool (check95 == 8)) ww97) else (
  R (.bool false) ww78)) else (
  R (.bool false) ww75)) else (
  R (.bool false) ww75)) else (
  R (.bool false) ww75)

theorem cachettelaw23_alive.eq  (R : Value → World → Prop) (w : World) : mfunc Try.prog [] 9 [] R w = cachettelaw23_alive.M  R w := by kernel_rfl
theorem cachettelaw23_alive.ok  {R : Value → World → Prop} {w : World} (h : cachettelaw23_alive.M  R w) : Calls Try.prog 9 #[] w fun e w' => ∃ v, e = .returned v ∧ R v w' :=
  mfunc_ok follows (H := []) (args := []) (by rw [cachettelaw23_alive.eq]; exact h)

def cachettelaw23_alive.N  (R : Value → World → Prop) (w : World) : Prop :=
  Calls Try.prog 10 #[.slice none 0 0] w fun ee2 ww3 => ∃ (new1 : Option Addr), ee2 = .returned (.pointer new1) ∧
  Calls Try.prog 11 #[.pointer new1] ww3 fun ee6 ww7 => ∃ (pair4 : Int) (pair5 : Int), ee6 = .returned (.tuple #[.int .u64 pair4, .int .u64 pair5]) ∧
  ∀ (ww8 : World) (q9 : Nat), Ext no ww7 ww8 → Blk ww8 q9 5 [.int .u8 120] → ww7.heap.size ≤ q9 → q9 < ww8.heap.size →
  ∃ (c10a : Option Addr) (c10n : Nat) (c10c : Nat) (ww11 : World), (convert 26 26 (.slice (some (blk q9)) 1 1)).run Try.prog ww8 = .ok (.slice c10a c10n c10c) ww11 ∧
  Calls Try.prog 13 #[.pointer new1, .int .u64 pair4, .agg #[.int .i64 0, .int .i64 0, .int .u64 0, .int .i64 1, .int .i64 0, .int .i64 0, .slice c10a c10n c10c, .int .u64 0]] ww11 fun ee21 ww22 => ∃ (Writer12 : Int) (Index13 : Int) (Prev14 : Int) (AtT15 : Int) (AtW16 : Int) (Epoch17 : Int) (Body18a : Option Addr) (Body18n : Nat) (Body18c : Nat) (Sig19 : Int) (sign20 : Int), ee21 = .returned (.tuple #[.agg #[.int .i64 Writer12, .int .i64 Index13, .int .u64 Prev14, .int .i64 AtT15, .int .i64 AtW16, .int .i64 Epoch17, .slice Body18a Body18n Body18c, .int .u64 Sig19], .int .i64 sign20]) ∧
  ∀ (ww32 : World) (q33 : Nat) (p34 : Nat), Ext no ww22 ww32 → Blk ww32 q33 5 [.int .u8 121] → ww22.heap.size ≤ q33 → q33 < ww32.heap.size → Privq ww22 q33 [p34] →
  ∃ (c35a : Option Addr) (c35n : Nat) (c35c : Nat) (ww36 : World), (convert 26 26 (.slice (some (blk q33)) 1 1)).run Try.prog ww32 = .ok (.slice c35a c35n c35c) ww36 ∧
  Keep [p34] ww32 ww36 ∧
  Calls Try.prog 13 #[.pointer new1, .int .u64 pair4, .agg #[.int .i64 0, .int .i64 0, .int .u64 0, .int .i64 1, .int .i64 0, .int .i64 0, .slice c35a c35n c35c, .int .u64 0]] ww36 fun ee46 ww47 => ∃ (Writer37 : Int) (Index38 : Int) (Prev39 : Int) (AtT40 : Int) (AtW41 : Int) (Epoch42 : Int) (Body43a : Option Addr) (Body43n : Nat) (Body43c : Nat) (Sig44 : Int) (sign45 : Int), ee46 = .returned (.tuple #[.agg #[.int .i64 Writer37, .int .i64 Index38, .int .u64 Prev39, .int .i64 AtT40, .int .i64 AtW41, .int .i64 Epoch42, .slice Body43a Body43n Body43c, .int .u64 Sig44], .int .i64 sign45]) ∧
  Keep [p34] ww36 ww47 ∧
  ∀ (ww56 : World) (p57 : Nat), Ext no ww47 ww56 → Priv ww47 ww56 [p57] →
  Calls Try.prog 39 #[] ww56 fun ee59 ww60 => ∃ (newalarm58 : Option Addr), ee59 = .returned (.pointer newalarm58) ∧
  Keep [p34, p57] ww56 ww60 ∧
  Calls Try.prog 40 #[.pointer newalarm58, .pointer new1, .int .u64 pair5, .agg #[.int .i64 Writer12, .int .i64 Index13, .int .u64 Prev14, .int .i64 AtT15, .int .i64 AtW16, .int .i64 Epoch17, .slice Body18a Body18n Body18c, .int .u64 Sig19, .int .i64 Writer37, .int .i64 Index38, .int .u64 Prev39, .int .i64 AtT40, .int .i64 AtW41, .int .i64 Epoch42, .slice Body43a Body43n Body43c, .int .u64 Sig44]] ww60 fun ee62 ww63 => ∃ (raise61 : Int), ee62 = .returned (.int .i64 raise61) ∧
  Keep [p34] ww60 ww63 ∧
  (sign20 = 0 →
    (sign45 = 0 →
      (raise61 = 0 →
        Calls Try.prog 43 #[.pointer newalarm58] ww63 fun ee68 ww69 => ∃ (on67 : Bool), ee68 = .returned (.bool on67) ∧
        Keep [p34] ww63 ww69 ∧
        (on67 = true →
          Calls Try.prog 16 #[.pointer new1, .int .u64 pair5, .agg #[.int .i64 Writer12, .int .i64 Index13, .int .u64 Prev14, .int .i64 AtT15, .int .i64 AtW16, .int .i64 Epoch17, .slice Body18a Body18n Body18c, .int .u64 Sig19, .int .i64 Writer12, .int .i64 Index13, .int .u64 Prev14, .int .i64 AtT15, .int .i64 AtW16, .int .i64 Epoch17, .slice Body18a Body18n Body18c, .int .u64 Sig19]] ww69 fun ee72 ww73 => ∃ (check71 : Int), ee72 = .returned (.int .i64 check71) ∧
          R (.bool (check71 == 8)) ww73) ∧
        (on67 = false →
          R (.bool false) ww69)) ∧
      (raise61 ≠ 0 →
        R (.bool false) ww63)) ∧
    (sign45 ≠ 0 →
      R (.bool false) ww63)) ∧
  (sign20 ≠ 0 →
    R (.bool false) ww63)

theorem cachettelaw23_alive.up  {R : Value → World → Prop} {w : World} (h : cachettelaw23_alive.N  R w) : cachettelaw23_alive.M  R w := by
  unfold cachettelaw23_alive.M
  unfold cachettelaw23_alive.N at h
  refine h.mono fun ee2 ww3 h => ?_
  obtain ⟨new1, he, h⟩ := h
  refine ⟨new1, he, ?_⟩
  refine h.mono fun ee6 ww7 h => ?_
  obtain ⟨pair4, pair5, he, h⟩ := h
  refine ⟨pair4, pair5, he, ?_⟩
  refine thenW_in fun ww8 e8 => ?_
  have h := h ww8 ww7.heap.size ((Ext.refl no ww7).x_alloc e8) (Blk.of_new e8) ((Ext.refl no ww7)).size (size_lt_alloc e8)
  obtain ⟨c10a, c10n, c10c, ww11, hr, h⟩ := h
  refine ⟨c10a, c10n, c10c, ww11, hr, ?_⟩
  refine h.mono fun ee21 ww22 h => ?_
  obtain ⟨Writer12, Index13, Prev14, AtT15, AtW16, Epoch17, Body18a, Body18n, Body18c, Sig19, sign20, he, h⟩ := h
  refine ⟨Writer12, Index13, Prev14, AtT15, AtW16, Epoch17, Body18a, Body18n, Body18c, Sig19, sign20, he, ?_⟩
  refine thenW_in fun ww23 e23 => ?_
  have hb1 := Blk.of_new e23
  have hg1 := ((Ext.refl no ww22)).size
  have hx23 := (Ext.refl no ww22).x_alloc e23
  refine ⟨hb1.cani 0 rfl rfl, thenW_in fun ww24 e24 => ?_⟩
  have hx24 := hx23.x_set (q := ww22.heap.size) (i := 0) rfl (.inr hg1) e24
  have hb1 := hb1.seti 0 rfl e24
  refine ⟨hb1.cani 1 rfl rfl, thenW_in fun ww25 e25 => ?_⟩
  have hx25 := hx24.x_set (q := ww22.heap.size) (i := 1) rfl (.inr hg1) e25
  have hb1 := hb1.seti 1 rfl e25
  refine ⟨hb1.cani 2 rfl rfl, thenW_in fun ww26 e26 => ?_⟩
  have hx26 := hx25.x_set (q := ww22.heap.size) (i := 2) rfl (.inr hg1) e26
  have hb1 := hb1.seti 2 rfl e26
  refine ⟨hb1.cani 3 rfl rfl, thenW_in fun ww27 e27 => ?_⟩
  have hx27 := hx26.x_set (q := ww22.heap.size) (i := 3) rfl (.inr hg1) e27
  have hb1 := hb1.seti 3 rfl e27
  refine ⟨hb1.cani 4 rfl rfl, thenW_in fun ww28 e28 => ?_⟩
  have hx28 := hx27.x_set (q := ww22.heap.size) (i := 4) rfl (.inr hg1) e28
  have hb1 := hb1.seti 4 rfl e28
  refine ⟨hb1.cani 5 rfl rfl, thenW_in fun ww29 e29 => ?_⟩
  have hx29 := hx28.x_set (q := ww22.heap.size) (i := 5) rfl (.inr hg1) e29
  have hb1 := hb1.seti 5 rfl e29
  refine ⟨hb1.cani 6 rfl rfl, thenW_in fun ww30 e30 => ?_⟩
  have hx30 := hx29.x_set (q := ww22.heap.size) (i := 6) rfl (.inr hg1) e30
  have hb1 := hb1.seti 6 rfl e30
  refine ⟨hb1.cani 7 rfl rfl, thenW_in fun ww31 e31 => ?_⟩
  have hx31 := hx30.x_set (q := ww22.heap.size) (i := 7) rfl (.inr hg1) e31
  have hb1 := hb1.seti 7 rfl e31
  refine thenW_in fun ww32 e32 => ?_
  have hl1 := hb1.lt
  have hb1 := hb1.x_alloc e32
  have h := h ww32 ww31.heap.size (ww22.heap.size) (hx31.x_alloc e32) (Blk.of_new e32) (hx31).size (size_lt_alloc e32) (Privq.cons hg1 hl1 Privq.nil)
  obtain ⟨c35a, c35n, c35c, ww36, hr, hk, h⟩ := h
  refine ⟨c35a, c35n, c35c, ww36, hr, ?_⟩
  have hb1 := hk.blk hb1 (by simp)
  refine h.mono fun ee46 ww47 h => ?_
  obtain ⟨Writer37, Index38, Prev39, AtT40, AtW41, Epoch42, Body43a, Body43n, Body43c, Sig44, sign45, he, hk, h⟩ := h
  refine ⟨Writer37, Index38, Prev39, AtT40, AtW41, Epoch42, Body43a, Body43n, Body43c, Sig44, sign45, he, ?_⟩
  have hb1 := hk.blk hb1 (by simp)
  refine thenW_in fun ww48 e48 => ?_
  have hb2 := Blk.of_new e48
  have hg2 := ((Ext.refl no ww47)).size
  have hb1_2 := Nat.ne_of_lt hb1.lt
  have hb1 := hb1.x_alloc e48
  have hx48 := (Ext.refl no ww47).x_alloc e48
  refine ⟨hb2.cani 0 rfl rfl, thenW_in fun ww49 e49 => ?_⟩
  have hx49 := hx48.x_set (q := ww47.heap.size) (i := 0) rfl (.inr hg2) e49
  have hb1 := hb1.oth (q := ww47.heap.size) (i := 0) rfl hb1_2 e49
  have hb2 := hb2.seti 0 rfl e49
  refine ⟨hb2.cani 1 rfl rfl, thenW_in fun ww50 e50 => ?_⟩
  have hx50 := hx49.x_set (q := ww47.heap.size) (i := 1) rfl (.inr hg2) e50
  have hb1 := hb1.oth (q := ww47.heap.size) (i := 1) rfl hb1_2 e50
  have hb2 := hb2.seti 1 rfl e50
  refine ⟨hb2.cani 2 rfl rfl, thenW_in fun ww51 e51 => ?_⟩
  have hx51 := hx50.x_set (q := ww47.heap.size) (i := 2) rfl (.inr hg2) e51
  have hb1 := hb1.oth (q := ww47.heap.size) (i := 2) rfl hb1_2 e51
  have hb2 := hb2.seti 2 rfl e51
  refine ⟨hb2.cani 3 rfl rfl, thenW_in fun ww52 e52 => ?_⟩
  have hx52 := hx51.x_set (q := ww47.heap.size) (i := 3) rfl (.inr hg2) e52
  have hb1 := hb1.oth (q := ww47.heap.size) (i := 3) rfl hb1_2 e52
  have hb2 := hb2.seti 3 rfl e52
  refine ⟨hb2.cani 4 rfl rfl, thenW_in fun ww53 e53 => ?_⟩
  have hx53 := hx52.x_set (q := ww47.heap.size) (i := 4) rfl (.inr hg2) e53
  have hb1 := hb1.oth (q := ww47.heap.size) (i := 4) rfl hb1_2 e53
  have hb2 := hb2.seti 4 rfl e53
  refine ⟨hb2.cani 5 rfl rfl, thenW_in fun ww54 e54 => ?_⟩
  have hx54 := hx53.x_set (q := ww47.heap.size) (i := 5) rfl (.inr hg2) e54
  have hb1 := hb1.oth (q := ww47.heap.size) (i := 5) rfl hb1_2 e54
  have hb2 := hb2.seti 5 rfl e54
  refine ⟨hb2.cani 6 rfl rfl, thenW_in fun ww55 e55 => ?_⟩
  have hx55 := hx54.x_set (q := ww47.heap.size) (i := 6) rfl (.inr hg2) e55
  have hb1 := hb1.oth (q := ww47.heap.size) (i := 6) rfl hb1_2 e55
  have hb2 := hb2.seti 6 rfl e55
  refine ⟨hb2.cani 7 rfl rfl, thenW_in fun ww56 e56 => ?_⟩
  have hx56 := hx55.x_set (q := ww47.heap.size) (i := 7) rfl (.inr hg2) e56
  have hb1 := hb1.oth (q := ww47.heap.size) (i := 7) rfl hb1_2 e56
  have hb2 := hb2.seti 7 rfl e56
  have h := h ww56 (ww47.heap.size) hx56 (Priv.cons hg2 hb2.lt Priv.nil)
  refine h.mono fun ee59 ww60 h => ?_
  obtain ⟨newalarm58, he, hk, h⟩ := h
  refine ⟨newalarm58, he, ?_⟩
  have hb1 := hk.blk hb1 (by simp)
  have hb2 := hk.blk hb2 (by simp)
  refine ⟨Writer12, Index13, Prev14, AtT15, AtW16, Epoch17, Body18a, Body18n, Body18c, Sig19, ⟨hb1.celli 0 rfl rfl, hb1.celli 1 rfl rfl, hb1.celli 2 rfl rfl, hb1.celli 3 rfl rfl, hb1.celli 4 rfl rfl, hb1.celli 5 rfl rfl, hb1.celli 6 rfl rfl, hb1.celli 7 rfl rfl, trivial⟩, ?_⟩
  refine ⟨Writer37, Index38, Prev39, AtT40, AtW41, Epoch42, Body43a, Body43n, Body43c, Sig44, ⟨hb2.celli 0 rfl rfl, hb2.celli 1 rfl rfl, hb2.celli 2 rfl rfl, hb2.celli 3 rfl rfl, hb2.celli 4 rfl rfl, hb2.celli 5 rfl rfl, hb2.celli 6 rfl rfl, hb2.celli 7 rfl rfl, trivial⟩, ?_⟩
  refine h.mono fun ee62 ww63 h => ?_
  obtain ⟨raise61, he, hk, h⟩ := h
  refine ⟨raise61, he, ?_⟩
  have hb1 := hk.blk hb1 (by simp)
  refine bif_of (fun c64 => ?_) (fun c64 => ?_)
  · have h := h.1 (beq_t c64)
    refine bif_of (fun c65 => ?_) (fun c65 => ?_)
    · have h := h.1 (beq_t c65)
      refine bif_of (fun c66 => ?_) (fun c66 => ?_)
      · have h := h.1 (beq_t c66)
        refine h.mono fun ee68 ww69 h => ?_
        obtain ⟨on67, he, hk, h⟩ := h
        refine ⟨on67, he, ?_⟩
        have hb1 := hk.blk hb1 (by simp)
        refine bif_of (fun c70 => ?_) (fun c70 => ?_)
        · have h := h.1 c70
          refine ⟨Writer12, Index13, Prev14, AtT15, AtW16, Epoch17, Body18a, Body18n, Body18c, Sig19, ⟨hb1.celli 0 rfl rfl, hb1.celli 1 rfl rfl, hb1.celli 2 rfl rfl, hb1.celli 3 rfl rfl, hb1.celli 4 rfl rfl, hb1.celli 5 rfl rfl, hb1.celli 6 rfl rfl, hb1.celli 7 rfl rfl, trivial⟩, ?_⟩
          refine ⟨Writer12, Index13, Prev14, AtT15, AtW16, Epoch17, Body18a, Body18n, Body18c, Sig19, ⟨hb1.celli 0 rfl rfl, hb1.celli 1 rfl rfl, hb1.celli 2 rfl rfl, hb1.celli 3 rfl rfl, hb1.celli 4 rfl rfl, hb1.celli 5 rfl rfl, hb1.celli 6 rfl rfl, hb1.celli 7 rfl rfl, trivial⟩, ?_⟩
          refine h.mono fun ee72 ww73 h => ?_
          obtain ⟨check71, he, h⟩ := h
          refine ⟨check71, he, ?_⟩
          exact h
        · have h := h.2 c70
          exact h
      · have h := h.2 (beq_f c66)
        exact h
    · have h := h.2 (beq_f c65)
      exact h
  · have h := h.2 (beq_f c64)
    exact h

theorem cachettelaw23_alive.go  {R : Value → World → Prop} {w : World} (h : cachettelaw23_alive.N  R w) : Calls Try.prog 9 #[] w fun e w' => ∃ v, e = .returned v ∧ R v w' := cachettelaw23_alive.ok  (cachettelaw23_alive.up  h)
theorem cachettelaw23_alive.run  {V : Value} {Q : World → Prop} {w : World} (h : cachettelaw23_alive.N  (fun v w' => v = V ∧ Q w') w) : Calls Try.prog 9 #[] w (Ret V Q) := (cachettelaw23_alive.go  h).mono fun e w' ⟨v, he, hv, hq⟩ => ⟨by rw [he, hv], hq⟩

def prfV (a : Ent) (aa : Option Addr) (ac : Nat) (b : Ent) (ba : Option Addr) (bc : Nat) : Value :=
  .agg #[.int .i64 a.w, .int .i64 a.i, .int .u64 a.pv, .int .i64 a.t, .int .i64 a.tw, .int .i64 a.ep, .slice aa a.body.length ac, .int .u64 a.sg, .int .i64 b.w, .int .i64 b.i, .int .u64 b.pv, .int .i64 b.t, .int .i64 b.tw, .int .i64 b.ep, .slice ba b.body.length bc, .int .u64 b.sg]
/-- what a check says. -/
def checkP (hold : Ent → Bool) (a b : Ent) : Int :=
  if ¬ (entRight a = true ∧ entRight b = true) then 1 else if a.w ≠ b.w then 20 else if a.i ≠ b.i then 2 else if a = b then 8 else if ¬ (hold a = true ∧ hold b = true) then 6 else 0
section
variable {w w' : World} {o o' : Own} {k n : Nat} {K : Nat → Prop} {S : OS} {d : List Int} {L : List RRow} {a b : Ent} {aa ba : Option Addr} {ac bc : Nat}
theorem right_F : forkcheck_Proof_right.F a.w a.i a.pv a.t a.tw a.ep aa a.body.length ac a.sg b.w b.i b.pv b.t b.tw b.ep ba b.body.length bc b.sg = if entRight a = true ∧ entRight b = true then 0 else 1 := by
  unfold forkcheck_Proof_right.F
  rw [entRight_F, entRight_F]
  cases entRight a <;> cases entRight b <;> rfl
theorem apart_spec (ha : RowAt w aa (bytesV a.body)) (hb : RowAt w ba (bytesV b.body)) :
    Calls Try.prog 55 #[prfV a aa ac b ba bc] w (Ret (.int .i64 (if a = b then 8 else 0)) fun w' => Ext no w w') := by
  refine forkcheck_Proof_apart.run a.w a.i a.pv a.t a.tw a.ep aa a.body.length ac a.sg b.w b.i b.pv b.t b.tw b.ep ba b.body.length bc b.sg ?_
  unfold forkcheck_Proof_apart.N
  intro w17 X17
  refine (ESame_spec (e := a) (f := b) (ha.no X17) (hb.no X17)).mono fun x w21 ⟨he, X21⟩ => ⟨_, he, fun h => ?_, fun h => ?_⟩
  · rw [if_pos (of_decide_eq_true h)]; exact ⟨rfl, X17.trans X21⟩
  · rw [if_neg (of_decide_eq_false h)]; exact ⟨rfl, X17.trans X21⟩
theorem Check_spec (h : POrc w o k S) (ok : Tags w o) (p : Int) (hfa : entRight a = true → a.fit) (hfb : entRight b = true → b.fit) (ha : RowAt w aa (bytesV a.body)) (hb : RowAt w ba (bytesV b.body)) :
    Calls Try.prog 16 #[.pointer (some (blk k)), .int .u64 p, prfV a aa ac b ba bc] w (Ret (.int .i64 (checkP (holdsE S p) a b)) fun w' => Ext no w w') := by
  refine forkcheck_Check.run (some (blk k)) p a.w a.i a.pv a.t a.tw a.ep aa a.body.length ac a.sg b.w b.i b.pv b.t b.tw b.ep ba b.body.length bc b.sg ?_
  unfold forkcheck_Check.N
  rw [right_F]
  intro w19 p20 X19 hp
  refine ⟨fun q vs w1 => ∃ t : Nat, vs = [.int .i64 t] ∧ q + t = 4 ∧ Ext no w w1 ∧ (0 < t → entRight a = true ∧ entRight b = true) ∧ (1 < t → a.w = b.w) ∧ (2 < t → a.i = b.i) ∧ (3 < t → a ≠ b), 4, ⟨0, rfl, rfl, X19, fun h => absurd h (by decide), fun h => absurd h (by decide), fun h => absurd h (by decide), fun h => absurd h (by decide)⟩, ?_⟩
  rintro q w1 i ⟨t, hi, hq, X1, c0, c1, c2, c3⟩
  simp only [List.cons.injEq, Value.int.injEq, true_and, and_true] at hi
  subst hi
  refine ⟨fun ht => ⟨by omega, by omega, fun h0 => ?_, fun h0 => ?_, fun h0 => ?_, fun h0 => ?_⟩, fun ht => ?_⟩
  · obtain rfl : t = 0 := by omega
    by_cases hr : entRight a = true ∧ entRight b = true
    · rw [if_pos hr]
      exact ⟨fun h => absurd rfl h, fun _ => ⟨by decide, by decide, fun w26 X26 => ⟨q - 1, by omega, 1, rfl, by omega, X1.trans X26, fun _ => hr, fun h => absurd h (by decide), fun h => absurd h (by decide), fun h => absurd h (by decide)⟩⟩⟩
    · rw [if_neg hr]
      exact ⟨fun _ w26 X26 => ⟨by unfold checkP; rw [if_pos hr], X1.trans X26⟩, fun h => absurd h (by decide)⟩
  · obtain rfl : t = 1 := by omega
    unfold forkcheck_Proof_writers.F
    by_cases hr : a.w = b.w
    · rw [if_pos hr]
      exact ⟨fun h => absurd rfl h, fun _ => ⟨by decide, by decide, fun w26 X26 => ⟨q - 1, by omega, 2, rfl, by omega, X1.trans X26, fun _ => c0 (by decide), fun _ => hr, fun h => absurd h (by decide), fun h => absurd h (by decide)⟩⟩⟩
    · rw [if_neg hr]
      exact ⟨fun _ w26 X26 => ⟨by unfold checkP; rw [if_neg (not_not_intro (c0 (by decide))), if_pos hr], X1.trans X26⟩, fun h => absurd h (by decide)⟩
  · obtain rfl : t = 2 := by omega
    unfold forkcheck_Proof_places.F
    by_cases hr : a.i = b.i
    · rw [if_pos hr]
      exact ⟨fun h => absurd rfl h, fun _ => ⟨by decide, by decide, fun w26 X26 => ⟨q - 1, by omega, 3, rfl, by omega, X1.trans X26, fun _ => c0 (by decide), fun _ => c1 (by decide), fun _ => hr, fun h => absurd h (by decide)⟩⟩⟩
    · rw [if_neg hr]
      exact ⟨fun _ w26 X26 => ⟨by unfold checkP; rw [if_neg (not_not_intro (c0 (by decide))), if_neg (not_not_intro (c1 (by decide))), if_pos hr], X1.trans X26⟩, fun h => absurd h (by decide)⟩
  · obtain rfl : t = 3 := by omega
    refine (apart_spec (a := a) (b := b) (ha.no X1) (hb.no X1)).mono fun x w37 ⟨he, X37⟩ => ⟨_, he, X37.kept, fun h => ?_, fun h => ?_⟩
    · by_cases hr : a = b
      · rw [if_pos hr]
        exact ⟨by unfold checkP; rw [if_neg (not_not_intro (c0 (by decide))), if_neg (not_not_intro (c1 (by decide))), if_neg (not_not_intro (c2 (by decide))), if_pos hr], X1.trans X37⟩
      · rw [if_neg hr] at h; exact absurd rfl h
    · by_cases hr : a = b
      · rw [if_pos hr] at h; exact absurd h (by decide)
      · exact ⟨by decide, by decide, q - 1, by omega, 4, rfl, by omega, X1.trans X37, fun _ => c0 (by decide), fun _ => c1 (by decide), fun _ => c2 (by decide), fun _ => hr⟩
  · obtain rfl : t = 4 := by omega
    have s1 := Step.of_no X1 ok
    have hc : checkP (holdsE S p) a b = if ¬ (holdsE S p a = true ∧ holdsE S p b = true) then 6 else 0 := by
      unfold checkP
      rw [if_neg (not_not_intro (c0 (by decide))), if_neg (not_not_intro (c1 (by decide))), if_neg (not_not_intro (c2 (by decide))), if_neg (c3 (by decide))]
    rw [hc]
    refine (HoldsO (h.step s1 id) s1.ok p (e := a) hfa (ha.no X1)).mono fun x w29 ⟨he, X29⟩ => ⟨_, he, X29.kept, fun hh => ⟨by rw [if_pos (fun q => by rw [hh] at q; cases q.1)], X1.trans X29⟩, fun hh => ?_⟩
    have s2 := s1.trans (Step.of_no X29 s1.ok)
    refine (HoldsO (h.step s2 id) s2.ok p (e := b) hfb ((hb.no X1).no X29)).mono fun x w33 ⟨he, X33⟩ => ⟨_, he, fun hk => ⟨by rw [if_pos (fun q => by rw [hk] at q; cases q.2)], (X1.trans X29).trans X33⟩, fun hk => ⟨by rw [if_neg (not_not_intro ⟨hh, hk⟩)], (X1.trans X29).trans X33⟩⟩
theorem rCheck_spec (h : ROrc w o k d L) (ok : ROk w o d L) (p : Int) (hfa : entRight a = true → a.fit) (hfb : entRight b = true → b.fit) (ha : RowAt w aa (bytesV a.body)) (hb : RowAt w ba (bytesV b.body)) (hl : a.body.length < 1000000) :
    Calls Try.prog 17 #[.pointer (some (blk k)), .int .u64 p, prfV a aa ac b ba bc] w (Ret (.int .i64 (checkP (holdsR L p) a b)) fun w' => Ext no w w') := by
  refine cachetteref23_Check.run (some (blk k)) p a.w a.i a.pv a.t a.tw a.ep aa a.body.length ac a.sg b.w b.i b.pv b.t b.tw b.ep ba b.body.length bc b.sg ?_
  unfold cachetteref23_Check.N
  rw [refRight_F, refRight_F]
  refine ⟨fun h1 w20 X => ⟨by unfold checkP; rw [if_pos (fun q => by rw [h1] at q; cases q.1)], X⟩, fun h1 => ⟨fun h2 w20 X => ⟨by unfold checkP; rw [if_pos (fun q => by rw [h2] at q; cases q.2)], X⟩, fun h2 => ?_⟩⟩
  have c0 : ¬ ¬ (entRight a = true ∧ entRight b = true) := not_not_intro ⟨h1, h2⟩
  refine ⟨fun h3 w20 X => ⟨by unfold checkP; rw [if_neg c0, if_pos h3], X⟩, fun h3 => ⟨fun h4 w20 X => ⟨by unfold checkP; rw [if_neg c0, if_neg (not_not_intro h3), if_pos h4], X⟩, fun h4 w23 p30 X1 hp => ?_⟩⟩
  refine (rESame_spec (e := a) (f := b) (ha.no X1) (hb.no X1) hl).mono fun x w33 ⟨he, X33⟩ => ⟨_, he, X33.kept, fun h5 => ⟨by unfold checkP; rw [if_neg c0, if_neg (not_not_intro h3), if_neg (not_not_intro h4), if_pos (of_decide_eq_true h5)], X1.trans X33⟩, fun h5 => ?_⟩
  have hc : checkP (holdsR L p) a b = if ¬ (holdsR L p a = true ∧ holdsR L p b = true) then 6 else 0 := by
    unfold checkP
    rw [if_neg c0, if_neg (not_not_intro h3), if_neg (not_not_intro h4), if_neg (of_decide_eq_false h5)]
  rw [hc]
  have X := X1.trans X33
  have s1 := Step.of_no X ok.tags
  refine (rHolds_spec (h.step s1 id) ⟨s1.ok, ok.draws, ok.short, ok.bytes⟩ p (e := a) hfa (ha.no X)).mono fun x w37 ⟨he, X37⟩ => ⟨_, he, X37.kept, fun hh => ⟨by rw [if_pos (fun q => by rw [hh] at q; cases q.1)], X.trans X37⟩, fun hh => ?_⟩
  have s2 := s1.trans (Step.of_no X37 s1.ok)
  refine (rHolds_spec (h.step s2 id) ⟨s2.ok, ok.draws, ok.short, ok.bytes⟩ p (e := b) hfb ((hb.no X).no X37)).mono fun x w41 ⟨he, X41⟩ => ⟨_, he, fun hk => ⟨by rw [if_pos (fun q => by rw [hk] at q; cases q.2)], (X.trans X37).trans X41⟩, fun hk => ⟨by rw [if_neg (not_not_intro ⟨hh, hk⟩)], (X.trans X37).trans X41⟩⟩
theorem check_sim (h : Sim S d L) (p : Int) (a b : Ent) : checkP (holdsR L p) a b = checkP (holdsE S p) a b := by
  have : holdsR L p = holdsE S p := funext fun e => holds_sim h p e
  rw [this]
end
end Go.Proofs.Ytlfijjmjmgobhaa
