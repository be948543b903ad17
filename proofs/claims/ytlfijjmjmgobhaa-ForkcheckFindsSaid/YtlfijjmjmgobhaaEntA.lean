/- Entries: what is plain of them. -/
import Derived.Test.YtlfijjmjmgobhaaWirF
set_option linter.unusedVariables false
set_option linter.unusedSimpArgs false
set_option maxRecDepth 20000
namespace Go.Proofs.Ytlfijjmjmgobhaa
open Go Go.Mx Go.Proofs
open W (OwnB GivesW numR countR doneR zig unzig intR)
/-- entry.within -/
def entry_within.M (n1 : Int) (least2 : Int) (below3 : Int) (R : Value → World → Prop) (w : World) : Prop :=
  bif decide (n1 ≥ least2) then (
  R (.bool (decide (n1 < below3))) w) else (
  R (.bool false) w)

theorem entry_within.eq (n1 : Int) (least2 : Int) (below3 : Int) (R : Value → World → Prop) (w : World) : mfunc Try.prog [] 92 [.int .i64 n1, .int .i64 least2, .int .i64 below3] R w = entry_within.M n1 least2 below3 R w := by kernel_rfl
theorem entry_within.ok (n1 : Int) (least2 : Int) (below3 : Int) {R : Value → World → Prop} {w : World} (h : entry_within.M n1 least2 below3 R w) : Calls Try.prog 92 #[.int .i64 n1, .int .i64 least2, .int .i64 below3] w fun e w' => ∃ v, e = .returned v ∧ R v w' :=
  mfunc_ok follows (H := []) (args := [.int .i64 n1, .int .i64 least2, .int .i64 below3]) (by rw [entry_within.eq]; exact h)

def entry_within.N (n1 : Int) (least2 : Int) (below3 : Int) (R : Value → World → Prop) (w : World) : Prop :=
  (n1 ≥ least2 →
    R (.bool (decide (n1 < below3))) w) ∧
  (n1 < least2 →
    R (.bool false) w)

theorem entry_within.up (n1 : Int) (least2 : Int) (below3 : Int) {R : Value → World → Prop} {w : World} (h : entry_within.N n1 least2 below3 R w) : entry_within.M n1 least2 below3 R w := by
  unfold entry_within.M
  unfold entry_within.N at h
  refine bif_of (fun c4 => ?_) (fun c4 => ?_)
  · have h := h.1 (of_decide_eq_true c4)
    exact h
  · have h := h.2 (Int.not_le.1 (of_decide_eq_false c4))
    exact h

theorem entry_within.go (n1 : Int) (least2 : Int) (below3 : Int) {R : Value → World → Prop} {w : World} (h : entry_within.N n1 least2 below3 R w) : Calls Try.prog 92 #[.int .i64 n1, .int .i64 least2, .int .i64 below3] w fun e w' => ∃ v, e = .returned v ∧ R v w' := entry_within.ok n1 least2 below3 (entry_within.up n1 least2 below3 h)
theorem entry_within.run (n1 : Int) (least2 : Int) (below3 : Int) {V : Value} {Q : World → Prop} {w : World} (h : entry_within.N n1 least2 below3 (fun v w' => v = V ∧ Q w') w) : Calls Try.prog 92 #[.int .i64 n1, .int .i64 least2, .int .i64 below3] w (Ret V Q) := (entry_within.go n1 least2 below3 h).mono fun e w' ⟨v, he, hv, hq⟩ => ⟨by rw [he, hv], hq⟩

def entry_within.F (n1 : Int) (least2 : Int) (below3 : Int) : Bool :=
  if n1 ≥ least2 then
    (decide (n1 < below3))
  else
    false
theorem entry_within.pure (n1 : Int) (least2 : Int) (below3 : Int) {w : World} : Calls Try.prog 92 #[.int .i64 n1, .int .i64 least2, .int .i64 below3] w (Ret (.bool (entry_within.F n1 least2 below3)) fun w' => Ext no w w') := by
  refine entry_within.run n1 least2 below3 ?_
  unfold entry_within.N
  refine ⟨fun c0 => ?_, fun c0 => ?_⟩
  · exact ⟨by unfold entry_within.F; rw [if_pos c0], Ext.refl _ _⟩
  · exact ⟨by unfold entry_within.F; rw [if_neg (by omega)], Ext.refl _ _⟩

/-- stamp.member -/
def stamp_member.M (wv1 : Int) (R : Value → World → Prop) (w : World) : Prop :=
  bif decide (wv1 ≥ 0) then (
  R (.bool (decide (wv1 < 8))) w) else (
  R (.bool false) w)

theorem stamp_member.eq (wv1 : Int) (R : Value → World → Prop) (w : World) : mfunc Try.prog [] 107 [.int .i64 wv1] R w = stamp_member.M wv1 R w := by kernel_rfl
theorem stamp_member.ok (wv1 : Int) {R : Value → World → Prop} {w : World} (h : stamp_member.M wv1 R w) : Calls Try.prog 107 #[.int .i64 wv1] w fun e w' => ∃ v, e = .returned v ∧ R v w' :=
  mfunc_ok follows (H := []) (args := [.int .i64 wv1]) (by rw [stamp_member.eq]; exact h)

def stamp_member.N (wv1 : Int) (R : Value → World → Prop) (w : World) : Prop :=
  (wv1 ≥ 0 →
    R (.bool (decide (wv1 < 8))) w) ∧
  (wv1 < 0 →
    R (.bool false) w)

theorem stamp_member.up (wv1 : Int) {R : Value → World → Prop} {w : World} (h : stamp_member.N wv1 R w) : stamp_member.M wv1 R w := by
  unfold stamp_member.M
  unfold stamp_member.N at h
  refine bif_of (fun c2 => ?_) (fun c2 => ?_)
  · have h := h.1 (of_decide_eq_true c2)
    exact h
  · have h := h.2 (Int.not_le.1 (of_decide_eq_false c2))
    exact h

theorem stamp_member.go (wv1 : Int) {R : Value → World → Prop} {w : World} (h : stamp_member.N wv1 R w) : Calls Try.prog 107 #[.int .i64 wv1] w fun e w' => ∃ v, e = .returned v ∧ R v w' := stamp_member.ok wv1 (stamp_member.up wv1 h)
theorem stamp_member.run (wv1 : Int) {V : Value} {Q : World → Prop} {w : World} (h : stamp_member.N wv1 (fun v w' => v = V ∧ Q w') w) : Calls Try.prog 107 #[.int .i64 wv1] w (Ret V Q) := (stamp_member.go wv1 h).mono fun e w' ⟨v, he, hv, hq⟩ => ⟨by rw [he, hv], hq⟩

def stamp_member.F (wv1 : Int) : Bool :=
  if wv1 ≥ 0 then
    (decide (wv1 < 8))
  else
    false
theorem stamp_member.pure (wv1 : Int) {w : World} : Calls Try.prog 107 #[.int .i64 wv1] w (Ret (.bool (stamp_member.F wv1)) fun w' => Ext no w w') := by
  refine stamp_member.run wv1 ?_
  unfold stamp_member.N
  refine ⟨fun c0 => ?_, fun c0 => ?_⟩
  · exact ⟨by unfold stamp_member.F; rw [if_pos c0], Ext.refl _ _⟩
  · exact ⟨by unfold stamp_member.F; rw [if_neg (by omega)], Ext.refl _ _⟩

/-- stamp.Right -/
def stamp_Right.M (sT1 : Int) (sW2 : Int) (R : Value → World → Prop) (w : World) : Prop :=
  thenW (w.alloc (.cells #[.int .i64 sT1, .int .i64 sW2] 25)) fun ww3 =>
  ∃ (T4 : Int), ww3.cell? ((blk w.heap.size).add 0) = some (.int .i64 T4) ∧
  bif decide (T4 > 0) then (
  ∃ (T5 : Int), ww3.cell? ((blk w.heap.size).add 0) = some (.int .i64 T5) ∧
  bif decide (T5 ≤ 1099511627776) then (
  ∃ (W6 : Int), ww3.cell? ((blk w.heap.size).add 1) = some (.int .i64 W6) ∧
  Calls Try.prog 107 #[.int .i64 W6] ww3 fun ee8 ww9 => ∃ (member7 : Bool), ee8 = .returned (.bool member7) ∧
  R (.bool member7) ww9) else (
  R (.bool false) ww3)) else (
  R (.bool false) ww3)

theorem stamp_Right.eq (sT1 : Int) (sW2 : Int) (R : Value → World → Prop) (w : World) : mfunc Try.prog [] 93 [.agg #[.int .i64 sT1, .int .i64 sW2]] R w = stamp_Right.M sT1 sW2 R w := by kernel_rfl
theorem stamp_Right.ok (sT1 : Int) (sW2 : Int) {R : Value → World → Prop} {w : World} (h : stamp_Right.M sT1 sW2 R w) : Calls Try.prog 93 #[.agg #[.int .i64 sT1, .int .i64 sW2]] w fun e w' => ∃ v, e = .returned v ∧ R v w' :=
  mfunc_ok follows (H := []) (args := [.agg #[.int .i64 sT1, .int .i64 sW2]]) (by rw [stamp_Right.eq]; exact h)

def stamp_Right.N (sT1 : Int) (sW2 : Int) (R : Value → World → Prop) (w : World) : Prop :=
  (sT1 > 0 →
    (sT1 ≤ 1099511627776 →
      ∀ (ww6 : World), Ext no w ww6 →
      R (.bool (stamp_member.F sW2)) ww6) ∧
    ((1099511627776 : Int) < sT1 →
      ∀ (ww3 : World), Ext no w ww3 →
      R (.bool false) ww3)) ∧
  (sT1 ≤ 0 →
    ∀ (ww3 : World), Ext no w ww3 →
    R (.bool false) ww3)

theorem stamp_Right.up (sT1 : Int) (sW2 : Int) {R : Value → World → Prop} {w : World} (h : stamp_Right.N sT1 sW2 R w) : stamp_Right.M sT1 sW2 R w := by
  unfold stamp_Right.M
  unfold stamp_Right.N at h
  refine thenW_in fun ww3 e3 => ?_
  have hb1 := Blk.of_new e3
  have hg1 := ((Ext.refl no w)).size
  have hx3 := (Ext.refl no w).x_alloc e3
  refine ⟨sT1, hb1.celli 0 rfl rfl, ?_⟩
  refine bif_of (fun c4 => ?_) (fun c4 => ?_)
  · have h := h.1 (of_decide_eq_true c4)
    refine ⟨sT1, hb1.celli 0 rfl rfl, ?_⟩
    refine bif_of (fun c5 => ?_) (fun c5 => ?_)
    · have h := h.1 (of_decide_eq_true c5)
      refine ⟨sW2, hb1.celli 1 rfl rfl, ?_⟩
      refine (stamp_member.pure sW2).mono fun ee ww6 ⟨he, hxx⟩ => ⟨(stamp_member.F sW2), he, ?_⟩
      have hx6 := hx3.trans hxx
      have h := h ww6 hx6
      exact h
    · have h := h.2 (Int.not_le.1 (of_decide_eq_false c5))
      have h := h ww3 hx3
      exact h
  · have h := h.2 (Int.not_lt.1 (of_decide_eq_false c4))
    have h := h ww3 hx3
    exact h

theorem stamp_Right.go (sT1 : Int) (sW2 : Int) {R : Value → World → Prop} {w : World} (h : stamp_Right.N sT1 sW2 R w) : Calls Try.prog 93 #[.agg #[.int .i64 sT1, .int .i64 sW2]] w fun e w' => ∃ v, e = .returned v ∧ R v w' := stamp_Right.ok sT1 sW2 (stamp_Right.up sT1 sW2 h)
theorem stamp_Right.run (sT1 : Int) (sW2 : Int) {V : Value} {Q : World → Prop} {w : World} (h : stamp_Right.N sT1 sW2 (fun v w' => v = V ∧ Q w') w) : Calls Try.prog 93 #[.agg #[.int .i64 sT1, .int .i64 sW2]] w (Ret V Q) := (stamp_Right.go sT1 sW2 h).mono fun e w' ⟨v, he, hv, hq⟩ => ⟨by rw [he, hv], hq⟩

def stamp_Right.F (sT1 : Int) (sW2 : Int) : Bool :=
  if sT1 > 0 then
    if sT1 ≤ 1099511627776 then
      (stamp_member.F sW2)
    else
      false
  else
    false
theorem stamp_Right.pure (sT1 : Int) (sW2 : Int) {w : World} : Calls Try.prog 93 #[.agg #[.int .i64 sT1, .int .i64 sW2]] w (Ret (.bool (stamp_Right.F sT1 sW2)) fun w' => Ext no w w') := by
  refine stamp_Right.run sT1 sW2 ?_
  unfold stamp_Right.N
  refine ⟨fun c0 => ?_, fun c0 => ?_⟩
  · refine ⟨fun c1 => ?_, fun c1 => ?_⟩
    · intro w' hx; exact ⟨by unfold stamp_Right.F; rw [if_pos c0, if_pos c1], hx⟩
    · intro w' hx; exact ⟨by unfold stamp_Right.F; rw [if_pos c0, if_neg (by omega)], hx⟩
  · intro w' hx; exact ⟨by unfold stamp_Right.F; rw [if_neg (by omega)], hx⟩

/-- entry.Right -/
def entry_Right.M (eWriter1 : Int) (eIndex2 : Int) (ePrev3 : Int) (eAtT4 : Int) (eAtW5 : Int) (eEpoch6 : Int) (eBody7a : Option Addr) (eBody7n : Nat) (eBody7c : Nat) (eSig8 : Int) (R : Value → World → Prop) (w : World) : Prop :=
  thenW (w.alloc (.cells #[.int .i64 eWriter1, .int .i64 eIndex2, .int .u64 ePrev3, .int .i64 eAtT4, .int .i64 eAtW5, .int .i64 eEpoch6, .slice eBody7a eBody7n eBody7c, .int .u64 eSig8] 28)) fun ww9 =>
  ∃ (Writer10 : Int), ww9.cell? ((blk w.heap.size).add 0) = some (.int .i64 Writer10) ∧
  Calls Try.prog 92 #[.int .i64 Writer10, .int .i64 0, .int .i64 8] ww9 fun ee12 ww13 => ∃ (within11 : Bool), ee12 = .returned (.bool within11) ∧
  bif !within11 then (
  bif !within11 then (
  R (.bool false) ww13) else (
  ∃ (AtT14 : Int) (AtW15 : Int), cellsAt ww13 ((blk w.heap.size).add 3) [.int .i64 AtT14, .int .i64 AtW15] 0 ∧
  Calls Try.prog 93 #[.agg #[.int .i64 AtT14, .int .i64 AtW15]] ww13 fun ee17 ww18 => ∃ (right16 : Bool), ee17 = .returned (.bool right16) ∧
  bif !right16 then (
  bif !right16 then (
  R (.bool false) ww18) else (
  ∃ (Prev19 : Int), ww18.cell? ((blk w.heap.size).add 2) = some (.int .u64 Prev19) ∧
  ∃ (Index20 : Int), ww18.cell? ((blk w.heap.size).add 1) = some (.int .i64 Index20) ∧
  R (.bool ((Prev19 == 0) == (Index20 == 0))) ww18)) else (
  ∃ (W21 : Int), ww18.cell? (((blk w.heap.size).add 3).add 1) = some (.int .i64 W21) ∧
  ∃ (Writer22 : Int), ww18.cell? ((blk w.heap.size).add 0) = some (.int .i64 Writer22) ∧
  bif W21 != Writer22 then (
  bif W21 != Writer22 then (
  R (.bool false) ww18) else (
  ∃ (Prev23 : Int), ww18.cell? ((blk w.heap.size).add 2) = some (.int .u64 Prev23) ∧
  ∃ (Index24 : Int), ww18.cell? ((blk w.heap.size).add 1) = some (.int .i64 Index24) ∧
  R (.bool ((Prev23 == 0) == (Index24 == 0))) ww18)) else (
  ∃ (Body25a : Option Addr) (Body25n : Nat) (Body25c : Nat), ww18.cell? ((blk w.heap.size).add 6) = some (.slice Body25a Body25n Body25c) ∧
  bif decide ((Body25n : Int) > 1100) then (
  R (.bool false) ww18) else (
  ∃ (Prev26 : Int), ww18.cell? ((blk w.heap.size).add 2) = some (.int .u64 Prev26) ∧
  ∃ (Index27 : Int), ww18.cell? ((blk w.heap.size).add 1) = some (.int .i64 Index27) ∧
  R (.bool ((Prev26 == 0) == (Index27 == 0))) ww18))))) else (
  ∃ (Index28 : Int), ww13.cell? ((blk w.heap.size).add 1) = some (.int .i64 Index28) ∧
  Calls Try.prog 92 #[.int .i64 Index28, .int .i64 0, .int .i64 200] ww13 fun ee30 ww31 => ∃ (within29 : Bool), ee30 = .returned (.bool within29) ∧
  bif !within29 then (
  bif !within29 then (
  R (.bool false) ww31) else (
  ∃ (AtT32 : Int) (AtW33 : Int), cellsAt ww31 ((blk w.heap.size).add 3) [.int .i64 AtT32, .int .i64 AtW33] 0 ∧
  Calls Try.prog 93 #[.agg #[.int .i64 AtT32, .int .i64 AtW33]] ww31 fun ee35 ww36 => ∃ (right34 : Bool), ee35 = .returned (.bool right34) ∧
  bif !right34 then (
  bif !right34 then (
  R (.bool false) ww36) else (
  ∃ (Prev37 : Int), ww36.cell? ((blk w.heap.size).add 2) = some (.int .u64 Prev37) ∧
  ∃ (Index38 : Int), ww36.cell? ((blk w.heap.size).add 1) = some (.int .i64 Index38) ∧
  R (.bool ((Prev37 == 0) == (Index38 == 0))) ww36)) else (
  ∃ (W39 : Int), ww36.cell? (((blk w.heap.size).add 3).add 1) = some (.int .i64 W39) ∧
  ∃ (Writer40 : Int), ww36.cell? ((blk w.heap.size).add 0) = some (.int .i64 Writer40) ∧
  bif W39 != Writer40 then (
  bif W39 != Writer40 then (
  R (.bool false) ww36) else (
  ∃ (Prev41 : Int), ww36.cell? ((blk w.heap.size).add 2) = some (.int .u64 Prev41) ∧
  ∃ (Index42 : Int), ww36.cell? ((blk w.heap.size).add 1) = some (.int .i64 Index42) ∧
  R (.bool ((Prev41 == 0) == (Index42 == 0))) ww36)) else (
  ∃ (Body43a : Option Addr) (Body43n : Nat) (Body43c : Nat), ww36.cell? ((blk w.heap.size).add 6) = some (.slice Body43a Body43n Body43c) ∧
  bif decide ((Body43n : Int) > 1100) then (
  R (.bool false) ww36) else (
  ∃ (Prev44 : Int), ww36.cell? ((blk w.heap.size).add 2) = some (.int .u64 Prev44) ∧
  ∃ (Index45 : Int), ww36.cell? ((blk w.heap.size).add 1) = some (.int .i64 Index45) ∧
  R (.bool ((Prev44 == 0) == (Index45 == 0))) ww36))))) else (
  ∃ (Epoch46 : Int), ww31.cell? ((blk w.heap.size).add 5) = some (.int .i64 Epoch46) ∧
  Calls Try.prog 92 #[.int .i64 Epoch46, .int .i64 (-1), .int .i64 20] ww31 fun ee48 ww49 => ∃ (within47 : Bool), ee48 = .returned (.bool within47) ∧
  bif !within47 then (
  R (.bool false) ww49) else (
  ∃ (AtT50 : Int) (AtW51 : Int), cellsAt ww49 ((blk w.heap.size).add 3) [.int .i64 AtT50, .int .i64 AtW51] 0 ∧
  Calls Try.prog 93 #[.agg #[.int .i64 AtT50, .int .i64 AtW51]] ww49 fun ee53 ww54 => ∃ (right52 : Bool), ee53 = .returned (.bool right52) ∧
  bif !right52 then (
  bif !right52 then (
  R (.bool false) ww54) else (
  ∃ (Prev55 : Int), ww54.cell? ((blk w.heap.size).add 2) = some (.int .u64 Prev55) ∧
  ∃ (Index56 : Int), ww54.cell? ((blk w.heap.size).add 1) = some (.int .i64 Index56) ∧
  R (.bool ((Prev55 == 0) == (Index56 == 0))) ww54)) else (
  ∃ (W57 : Int), ww54.cell? (((blk w.heap.size).add 3).add 1) = some (.int .i64 W57) ∧
  ∃ (Writer58 : Int), ww54.cell? ((blk w.heap.size).add 0) = some (.int .i64 Writer58) ∧
  bif W57 != Writer58 then (
  bif W57 != Writer58 then (
  R (.bool false) ww54) else (
  ∃ (Prev59 : Int), ww54.cell? ((blk w.heap.size).add 2) = some (.int .u64 Prev59) ∧
  ∃ (Index60 : Int), ww54.cell? ((blk w.heap.size).add 1) = some (.int .i64 Index60) ∧
  R (.bool ((Prev59 == 0) == (Index60 == 0))) ww54)) else (
  ∃ (Body61a : Option Addr) (Body61n : Nat) (Body61c : Nat), ww54.cell? ((blk w.heap.size).add 6) = some (.slice Body61a Body61n Body61c) ∧
  bif decide ((Body61n : Int) > 1100) then (
  R (.bool false) ww54) else (
  ∃ (Prev62 : Int), ww54.cell? ((blk w.heap.size).add 2) = some (.int .u64 Prev62) ∧
  ∃ (Index63 : Int), ww54.cell? ((blk w.heap.size).add 1) = some (.int .i64 Index63) ∧
  R (.bool ((Prev62 == 0) == (Index63 == 0))) ww54))))))

theorem entry_Right.eq (eWriter1 : Int) (eIndex2 : Int) (ePrev3 : Int) (eAtT4 : Int) (eAtW5 : Int) (eEpoch6 : Int) (eBody7a : Option Addr) (eBody7n : Nat) (eBody7c : Nat) (eSig8 : Int) (R : Value → World → Prop) (w : World) : mfunc Try.prog [] 71 [.agg #[.int .i64 eWriter1, .int .i64 eIndex2, .int .u64 ePrev3, .int .i64 eAtT4, .int .i64 eAtW5, .int .i64 eEpoch6, .slice eBody7a eBody7n eBody7c, .int .u64 eSig8]] R w = entry_Right.M eWriter1 eIndex2 ePrev3 eAtT4 eAtW5 eEpoch6 eBody7a eBody7n eBody7c eSig8 R w := by kernel_rfl
theorem entry_Right.ok (eWriter1 : Int) (eIndex2 : Int) (ePrev3 : Int) (eAtT4 : Int) (eAtW5 : Int) (eEpoch6 : Int) (eBody7a : Option Addr) (eBody7n : Nat) (eBody7c : Nat) (eSig8 : Int) {R : Value → World → Prop} {w : World} (h : entry_Right.M eWriter1 eIndex2 ePrev3 eAtT4 eAtW5 eEpoch6 eBody7a eBody7n eBody7c eSig8 R w) : Calls Try.prog 71 #[.agg #[.int .i64 eWriter1, .int .i64 eIndex2, .int .u64 ePrev3, .int .i64 eAtT4, .int .i64 eAtW5, .int .i64 eEpoch6, .slice eBody7a eBody7n eBody7c, .int .u64 eSig8]] w fun e w' => ∃ v, e = .returned v ∧ R v w' :=
  mfunc_ok follows (H := []) (args := [.agg #[.int .i64 eWriter1, .int .i64 eIndex2, .int .u64 ePrev3, .int .i64 eAtT4, .int .i64 eAtW5, .int .i64 eEpoch6, .slice eBody7a eBody7n eBody7c, .int .u64 eSig8]]) (by rw [entry_Right.eq]; exact h)

def entry_Right.N (eWriter1 : Int) (eIndex2 : Int) (ePrev3 : Int) (eAtT4 : Int) (eAtW5 : Int) (eEpoch6 : Int) (eBody7a : Option Addr) (eBody7n : Nat) (eBody7c : Nat) (eSig8 : Int) (R : Value → World → Prop) (w : World) : Prop :=
  ((entry_within.F eWriter1 0 8) = false →
    ∀ (ww10 : World), Ext no w ww10 →
    R (.bool false) ww10) ∧
  ((entry_within.F eWriter1 0 8) = true →
    ((entry_within.F eIndex2 0 200) = false →
      ∀ (ww13 : World), Ext no w ww13 →
      R (.bool false) ww13) ∧
    ((entry_within.F eIndex2 0 200) = true →
      ((entry_within.F eEpoch6 (-1) 20) = false →
        ∀ (ww16 : World), Ext no w ww16 →
        R (.bool false) ww16) ∧
      ((entry_within.F eEpoch6 (-1) 20) = true →
        ((stamp_Right.F eAtT4 eAtW5) = false →
          ∀ (ww19 : World), Ext no w ww19 →
          R (.bool false) ww19) ∧
        ((stamp_Right.F eAtT4 eAtW5) = true →
          (eAtW5 ≠ eWriter1 →
            ∀ (ww19 : World), Ext no w ww19 →
            R (.bool false) ww19) ∧
          (eAtW5 = eWriter1 →
            ((eBody7n : Int) > 1100 →
              ∀ (ww19 : World), Ext no w ww19 →
              R (.bool false) ww19) ∧
            ((eBody7n : Int) ≤ 1100 →
              ∀ (ww19 : World), Ext no w ww19 →
              R (.bool ((ePrev3 == 0) == (eIndex2 == 0))) ww19))))))

theorem entry_Right.up (eWriter1 : Int) (eIndex2 : Int) (ePrev3 : Int) (eAtT4 : Int) (eAtW5 : Int) (eEpoch6 : Int) (eBody7a : Option Addr) (eBody7n : Nat) (eBody7c : Nat) (eSig8 : Int) {R : Value → World → Prop} {w : World} (h : entry_Right.N eWriter1 eIndex2 ePrev3 eAtT4 eAtW5 eEpoch6 eBody7a eBody7n eBody7c eSig8 R w) : entry_Right.M eWriter1 eIndex2 ePrev3 eAtT4 eAtW5 eEpoch6 eBody7a eBody7n eBody7c eSig8 R w := by
  unfold entry_Right.M
  unfold entry_Right.N at h
  refine thenW_in fun ww9 e9 => ?_
  have hb1 := Blk.of_new e9
  have hg1 := ((Ext.refl no w)).size
  have hx9 := (Ext.refl no w).x_alloc e9
  refine ⟨eWriter1, hb1.celli 0 rfl rfl, ?_⟩
  refine (entry_within.pure eWriter1 0 8).mono fun ee ww10 ⟨he, hxx⟩ => ⟨(entry_within.F eWriter1 0 8), he, ?_⟩
  have hx10 := hx9.trans hxx
  have hb1 := hb1.ext hxx id
  refine bif_of (fun c11 => ?_) (fun c11 => ?_)
  · have h := h.1 (not_t c11)
    refine bif_tt c11 ?_
    have h := h ww10 hx10
    exact h
  · have h := h.2 (not_f c11)
    refine ⟨eIndex2, hb1.celli 1 rfl rfl, ?_⟩
    refine (entry_within.pure eIndex2 0 200).mono fun ee ww13 ⟨he, hxx⟩ => ⟨(entry_within.F eIndex2 0 200), he, ?_⟩
    have hx13 := hx10.trans hxx
    have hb1 := hb1.ext hxx id
    refine bif_of (fun c14 => ?_) (fun c14 => ?_)
    · have h := h.1 (not_t c14)
      refine bif_tt c14 ?_
      have h := h ww13 hx13
      exact h
    · have h := h.2 (not_f c14)
      refine ⟨eEpoch6, hb1.celli 5 rfl rfl, ?_⟩
      refine (entry_within.pure eEpoch6 (-1) 20).mono fun ee ww16 ⟨he, hxx⟩ => ⟨(entry_within.F eEpoch6 (-1) 20), he, ?_⟩
      have hx16 := hx13.trans hxx
      have hb1 := hb1.ext hxx id
      refine bif_of (fun c17 => ?_) (fun c17 => ?_)
      · have h := h.1 (not_t c17)
        have h := h ww16 hx16
        exact h
      · have h := h.2 (not_f c17)
        refine ⟨eAtT4, eAtW5, ⟨hb1.celli 3 rfl rfl, hb1.celli 4 rfl rfl, trivial⟩, ?_⟩
        refine (stamp_Right.pure eAtT4 eAtW5).mono fun ee ww19 ⟨he, hxx⟩ => ⟨(stamp_Right.F eAtT4 eAtW5), he, ?_⟩
        have hx19 := hx16.trans hxx
        have hb1 := hb1.ext hxx id
        refine bif_of (fun c20 => ?_) (fun c20 => ?_)
        · have h := h.1 (not_t c20)
          refine bif_tt c20 ?_
          have h := h ww19 hx19
          exact h
        · have h := h.2 (not_f c20)
          refine ⟨eAtW5, hb1.celli 4 rfl rfl, ?_⟩
          refine ⟨eWriter1, hb1.celli 0 rfl rfl, ?_⟩
          refine bif_of (fun c22 => ?_) (fun c22 => ?_)
          · have h := h.1 (bne_t c22)
            refine bif_tt c22 ?_
            have h := h ww19 hx19
            exact h
          · have h := h.2 (bne_f c22)
            refine ⟨eBody7a, eBody7n, eBody7c, hb1.celli 6 rfl rfl, ?_⟩
            refine bif_of (fun c24 => ?_) (fun c24 => ?_)
            · have h := h.1 (of_decide_eq_true c24)
              have h := h ww19 hx19
              exact h
            · have h := h.2 (Int.not_lt.1 (of_decide_eq_false c24))
              refine ⟨ePrev3, hb1.celli 2 rfl rfl, ?_⟩
              refine ⟨eIndex2, hb1.celli 1 rfl rfl, ?_⟩
              have h := h ww19 hx19
              exact h

theorem entry_Right.go (eWriter1 : Int) (eIndex2 : Int) (ePrev3 : Int) (eAtT4 : Int) (eAtW5 : Int) (eEpoch6 : Int) (eBody7a : Option Addr) (eBody7n : Nat) (eBody7c : Nat) (eSig8 : Int) {R : Value → World → Prop} {w : World} (h : entry_Right.N eWriter1 eIndex2 ePrev3 eAtT4 eAtW5 eEpoch6 eBody7a eBody7n eBody7c eSig8 R w) : Calls Try.prog 71 #[.agg #[.int .i64 eWriter1, .int .i64 eIndex2, .int .u64 ePrev3, .int .i64 eAtT4, .int .i64 eAtW5, .int .i64 eEpoch6, .slice eBody7a eBody7n eBody7c, .int .u64 eSig8]] w fun e w' => ∃ v, e = .returned v ∧ R v w' := entry_Right.ok eWriter1 eIndex2 ePrev3 eAtT4 eAtW5 eEpoch6 eBody7a eBody7n eBody7c eSig8 (entry_Right.up eWriter1 eIndex2 ePrev3 eAtT4 eAtW5 eEpoch6 eBody7a eBody7n eBody7c eSig8 h)
theorem entry_Right.run (eWriter1 : Int) (eIndex2 : Int) (ePrev3 : Int) (eAtT4 : Int) (eAtW5 : Int) (eEpoch6 : Int) (eBody7a : Option Addr) (eBody7n : Nat) (eBody7c : Nat) (eSig8 : Int) {V : Value} {Q : World → Prop} {w : World} (h : entry_Right.N eWriter1 eIndex2 ePrev3 eAtT4 eAtW5 eEpoch6 eBody7a eBody7n eBody7c eSig8 (fun v w' => v = V ∧ Q w') w) : Calls Try.prog 71 #[.agg #[.int .i64 eWriter1, .int .i64 eIndex2, .int .u64 ePrev3, .int .i64 eAtT4, .int .i64 eAtW5, .int .i64 eEpoch6, .slice eBody7a eBody7n eBody7c, .int .u64 eSig8]] w (Ret V Q) := (entry_Right.go eWriter1 eIndex2 ePrev3 eAtT4 eAtW5 eEpoch6 eBody7a eBody7n eBody7c eSig8 h).mono fun e w' ⟨v, he, hv, hq⟩ => ⟨by rw [he, hv], hq⟩

def entry_Right.F (eWriter1 : Int) (eIndex2 : Int) (ePrev3 : Int) (eAtT4 : Int) (eAtW5 : Int) (eEpoch6 : Int) (eBody7a : Option Addr) (eBody7n : Nat) (eBody7c : Nat) (eSig8 : Int) : Bool :=
  if (entry_within.F eWriter1 0 8) = false then
    false
  else
    if (entry_within.F eIndex2 0 200) = false then
      false
    else
      if (entry_within.F eEpoch6 (-1) 20) = false then
        false
      else
        if (stamp_Right.F eAtT4 eAtW5) = false then
          false
        else
          if eAtW5 ≠ eWriter1 then
            false
          else
            if (eBody7n : Int) > 1100 then
              false
            else
              ((ePrev3 == 0) == (eIndex2 == 0))
theorem entry_Right.pure (eWriter1 : Int) (eIndex2 : Int) (ePrev3 : Int) (eAtT4 : Int) (eAtW5 : Int) (eEpoch6 : Int) (eBody7a : Option Addr) (eBody7n : Nat) (eBody7c : Nat) (eSig8 : Int) {w : World} : Calls Try.prog 71 #[.agg #[.int .i64 eWriter1, .int .i64 eIndex2, .int .u64 ePrev3, .int .i64 eAtT4, .int .i64 eAtW5, .int .i64 eEpoch6, .slice eBody7a eBody7n eBody7c, .int .u64 eSig8]] w (Ret (.bool (entry_Right.F eWriter1 eIndex2 ePrev3 eAtT4 eAtW5 eEpoch6 eBody7a eBody7n eBody7c eSig8)) fun w' => Ext no w w') := by
  refine entry_Right.run eWriter1 eIndex2 ePrev3 eAtT4 eAtW5 eEpoch6 eBody7a eBody7n eBody7c eSig8 ?_
  unfold entry_Right.N
  refine ⟨fun c0 => ?_, fun c0 => ?_⟩
  · intro w' hx; exact ⟨by unfold entry_Right.F; rw [if_pos c0], hx⟩
  · refine ⟨fun c1 => ?_, fun c1 => ?_⟩
    · intro w' hx; exact ⟨by unfold entry_Right.F; rw [if_neg (by rw [c0]; decide), if_pos c1], hx⟩
    · refine ⟨fun c2 => ?_, fun c2 => ?_⟩
      · intro w' hx; exact ⟨by unfold entry_Right.F; rw [if_neg (by rw [c0]; decide), if_neg (by rw [c1]; decide), if_pos c2], hx⟩
      · refine ⟨fun c3 => ?_, fun c3 => ?_⟩
        · intro w' hx; exact ⟨by unfold entry_Right.F; rw [if_neg (by rw [c0]; decide), if_neg (by rw [c1]; decide), if_neg (by rw [c2]; decide), if_pos c3], hx⟩
        · refine ⟨fun c4 => ?_, fun c4 => ?_⟩
          · intro w' hx; exact ⟨by unfold entry_Right.F; rw [if_neg (by rw [c0]; decide), if_neg (by rw [c1]; decide), if_neg (by rw [c2]; decide), if_neg (by rw [c3]; decide), if_pos c4], hx⟩
          · refine ⟨fun c5 => ?_, fun c5 => ?_⟩
            · intro w' hx; exact ⟨by unfold entry_Right.F; rw [if_neg (by rw [c0]; decide), if_neg (by rw [c1]; decide), if_neg (by rw [c2]; decide), if_neg (by rw [c3]; decide), if_neg (not_not_intro c4), if_pos c5], hx⟩
            · intro w' hx; exact ⟨by unfold entry_Right.F; rw [if_neg (by rw [c0]; decide), if_neg (by rw [c1]; decide), if_neg (by rw [c2]; decide), if_neg (by rw [c3]; decide), if_neg (not_not_intro c4), if_neg (by omega)], hx⟩

/-- cachetteref04.Right -/
def cachetteref04_Right.M (sT1 : Int) (sW2 : Int) (R : Value → World → Prop) (w : World) : Prop :=
  thenW (w.alloc (.cells #[.int .i64 sT1, .int .i64 sW2] 25)) fun ww3 =>
  ∃ (T4 : Int), ww3.cell? ((blk w.heap.size).add 0) = some (.int .i64 T4) ∧
  bif decide (T4 ≥ 1) then (
  ∃ (T5 : Int), ww3.cell? ((blk w.heap.size).add 0) = some (.int .i64 T5) ∧
  bif decide (T5 ≤ 1099511627776) then (
  ∃ (W6 : Int), ww3.cell? ((blk w.heap.size).add 1) = some (.int .i64 W6) ∧
  bif decide (W6 ≥ 0) then (
  ∃ (W7 : Int), ww3.cell? ((blk w.heap.size).add 1) = some (.int .i64 W7) ∧
  R (.bool (decide (W7 < 8))) ww3) else (
  R (.bool false) ww3)) else (
  R (.bool false) ww3)) else (
  R (.bool false) ww3)

theorem cachetteref04_Right.eq (sT1 : Int) (sW2 : Int) (R : Value → World → Prop) (w : World) : mfunc Try.prog [] 85 [.agg #[.int .i64 sT1, .int .i64 sW2]] R w = cachetteref04_Right.M sT1 sW2 R w := by kernel_rfl
theorem cachetteref04_Right.ok (sT1 : Int) (sW2 : Int) {R : Value → World → Prop} {w : World} (h : cachetteref04_Right.M sT1 sW2 R w) : Calls Try.prog 85 #[.agg #[.int .i64 sT1, .int .i64 sW2]] w fun e w' => ∃ v, e = .returned v ∧ R v w' :=
  mfunc_ok follows (H := []) (args := [.agg #[.int .i64 sT1, .int .i64 sW2]]) (by rw [cachetteref04_Right.eq]; exact h)

def cachetteref04_Right.N (sT1 : Int) (sW2 : Int) (R : Value → World → Prop) (w : World) : Prop :=
  (sT1 ≥ 1 →
    (sT1 ≤ 1099511627776 →
      (sW2 ≥ 0 →
        ∀ (ww3 : World), Ext no w ww3 →
        R (.bool (decide (sW2 < 8))) ww3) ∧
      (sW2 < 0 →
        ∀ (ww3 : World), Ext no w ww3 →
        R (.bool false) ww3)) ∧
    ((1099511627776 : Int) < sT1 →
      ∀ (ww3 : World), Ext no w ww3 →
      R (.bool false) ww3)) ∧
  (sT1 < 1 →
    ∀ (ww3 : World), Ext no w ww3 →
    R (.bool false) ww3)

theorem cachetteref04_Right.up (sT1 : Int) (sW2 : Int) {R : Value → World → Prop} {w : World} (h : cachetteref04_Right.N sT1 sW2 R w) : cachetteref04_Right.M sT1 sW2 R w := by
  unfold cachetteref04_Right.M
  unfold cachetteref04_Right.N at h
  refine thenW_in fun ww3 e3 => ?_
  have hb1 := Blk.of_new e3
  have hg1 := ((Ext.refl no w)).size
  have hx3 := (Ext.refl no w).x_alloc e3
  refine ⟨sT1, hb1.celli 0 rfl rfl, ?_⟩
  refine bif_of (fun c4 => ?_) (fun c4 => ?_)
  · have h := h.1 (of_decide_eq_true c4)
    refine ⟨sT1, hb1.celli 0 rfl rfl, ?_⟩
    refine bif_of (fun c5 => ?_) (fun c5 => ?_)
    · have h := h.1 (of_decide_eq_true c5)
      refine ⟨sW2, hb1.celli 1 rfl rfl, ?_⟩
      refine bif_of (fun c6 => ?_) (fun c6 => ?_)
      · have h := h.1 (of_decide_eq_true c6)
        refine ⟨sW2, hb1.celli 1 rfl rfl, ?_⟩
        have h := h ww3 hx3
        exact h
      · have h := h.2 (Int.not_le.1 (of_decide_eq_false c6))
        have h := h ww3 hx3
        exact h
    · have h := h.2 (Int.not_le.1 (of_decide_eq_false c5))
      have h := h ww3 hx3
      exact h
  · have h := h.2 (Int.not_le.1 (of_decide_eq_false c4))
    have h := h ww3 hx3
    exact h

theorem cachetteref04_Right.go (sT1 : Int) (sW2 : Int) {R : Value → World → Prop} {w : World} (h : cachetteref04_Right.N sT1 sW2 R w) : Calls Try.prog 85 #[.agg #[.int .i64 sT1, .int .i64 sW2]] w fun e w' => ∃ v, e = .returned v ∧ R v w' := cachetteref04_Right.ok sT1 sW2 (cachetteref04_Right.up sT1 sW2 h)
theorem cachetteref04_Right.run (sT1 : Int) (sW2 : Int) {V : Value} {Q : World → Prop} {w : World} (h : cachetteref04_Right.N sT1 sW2 (fun v w' => v = V ∧ Q w') w) : Calls Try.prog 85 #[.agg #[.int .i64 sT1, .int .i64 sW2]] w (Ret V Q) := (cachetteref04_Right.go sT1 sW2 h).mono fun e w' ⟨v, he, hv, hq⟩ => ⟨by rw [he, hv], hq⟩

def cachetteref04_Right.F (sT1 : Int) (sW2 : Int) : Bool :=
  if sT1 ≥ 1 then
    if sT1 ≤ 1099511627776 then
      if sW2 ≥ 0 then
        (decide (sW2 < 8))
      else
        false
    else
      false
  else
    false
theorem cachetteref04_Right.pure (sT1 : Int) (sW2 : Int) {w : World} : Calls Try.prog 85 #[.agg #[.int .i64 sT1, .int .i64 sW2]] w (Ret (.bool (cachetteref04_Right.F sT1 sW2)) fun w' => Ext no w w') := by
  refine cachetteref04_Right.run sT1 sW2 ?_
  unfold cachetteref04_Right.N
  refine ⟨fun c0 => ?_, fun c0 => ?_⟩
  · refine ⟨fun c1 => ?_, fun c1 => ?_⟩
    · refine ⟨fun c2 => ?_, fun c2 => ?_⟩
      · intro w' hx; exact ⟨by unfold cachetteref04_Right.F; rw [if_pos c0, if_pos c1, if_pos c2], hx⟩
      · intro w' hx; exact ⟨by unfold cachetteref04_Right.F; rw [if_pos c0, if_pos c1, if_neg (by omega)], hx⟩
    · intro w' hx; exact ⟨by unfold cachetteref04_Right.F; rw [if_pos c0, if_neg (by omega)], hx⟩
  · intro w' hx; exact ⟨by unfold cachetteref04_Right.F; rw [if_neg (by omega)], hx⟩

/-- cachetteref06.Right -/
def cachetteref06_Right.M (eWriter1 : Int) (eIndex2 : Int) (ePrev3 : Int) (eAtT4 : Int) (eAtW5 : Int) (eEpoch6 : Int) (eBody7a : Option Addr) (eBody7n : Nat) (eBody7c : Nat) (eSig8 : Int) (R : Value → World → Prop) (w : World) : Prop :=
  thenW (w.alloc (.cells #[.int .i64 eWriter1, .int .i64 eIndex2, .int .u64 ePrev3, .int .i64 eAtT4, .int .i64 eAtW5, .int .i64 eEpoch6, .slice eBody7a eBody7n eBody7c, .int .u64 eSig8] 28)) fun ww9 =>
  ∃ (Writer10 : Int), ww9.cell? ((blk w.heap.size).add 0) = some (.int .i64 Writer10) ∧
  bif decide (Writer10 ≥ 0) then (
  ∃ (Writer11 : Int), ww9.cell? ((blk w.heap.size).add 0) = some (.int .i64 Writer11) ∧
  bif decide (Writer11 < 8) then (
  ∃ (Index12 : Int), ww9.cell? ((blk w.heap.size).add 1) = some (.int .i64 Index12) ∧
  bif decide (Index12 ≥ 0) then (
  ∃ (Index13 : Int), ww9.cell? ((blk w.heap.size).add 1) = some (.int .i64 Index13) ∧
  bif decide (Index13 < 200) then (
  ∃ (Prev14 : Int), ww9.cell? ((blk w.heap.size).add 2) = some (.int .u64 Prev14) ∧
  ∃ (Index15 : Int), ww9.cell? ((blk w.heap.size).add 1) = some (.int .i64 Index15) ∧
  bif (Prev14 == 0) == (Index15 == 0) then (
  ∃ (AtT16 : Int) (AtW17 : Int), cellsAt ww9 ((blk w.heap.size).add 3) [.int .i64 AtT16, .int .i64 AtW17] 0 ∧
  Calls Try.prog 85 #[.agg #[.int .i64 AtT16, .int .i64 AtW17]] ww9 fun ee19 ww20 => ∃ (right18 : Bool), ee19 = .returned (.bool right18) ∧
  bif right18 then (
  ∃ (W21 : Int), ww20.cell? (((blk w.heap.size).add 3).add 1) = some (.int .i64 W21) ∧
  ∃ (Writer22 : Int), ww20.cell? ((blk w.heap.size).add 0) = some (.int .i64 Writer22) ∧
  bif W21 == Writer22 then (
  ∃ (Epoch23 : Int), ww20.cell? ((blk w.heap.size).add 5) = some (.int .i64 Epoch23) ∧
  bif decide (Epoch23 ≥ (-1)) then (
  ∃ (Epoch24 : Int), ww20.cell? ((blk w.heap.size).add 5) = some (.int .i64 Epoch24) ∧
  bif decide (Epoch24 < 20) then (
  ∃ (Body25a : Option Addr) (Body25n : Nat) (Body25c : Nat), ww20.cell? ((blk w.heap.size).add 6) = some (.slice Body25a Body25n Body25c) ∧
  R (.bool (decide ((Body25n : Int) ≤ 1100))) ww20) else (
  R (.bool false) ww20)) else (
  R (.bool false) ww20)) else (
  R (.bool false) ww20)) else (
  R (.bool false) ww20)) else (
  R (.bool false) ww9)) else (
  R (.bool false) ww9)) else (
  R (.bool false) ww9)) else (
  R (.bool false) ww9)) else (
  R (.bool false) ww9)

theorem cachetteref06_Right.eq (eWriter1 : Int) (eIndex2 : Int) (ePrev3 : Int) (eAtT4 : Int) (eAtW5 : Int) (eEpoch6 : Int) (eBody7a : Option Addr) (eBody7n : Nat) (eBody7c : Nat) (eSig8 : Int) (R : Value → World → Prop) (w : World) : mfunc Try.prog [] 57 [.agg #[.int .i64 eWriter1, .int .i64 eIndex2, .int .u64 ePrev3, .int .i64 eAtT4, .int .i64 eAtW5, .int .i64 eEpoch6, .slice eBody7a eBody7n eBody7c, .int .u64 eSig8]] R w = cachetteref06_Right.M eWriter1 eIndex2 ePrev3 eAtT4 eAtW5 eEpoch6 eBody7a eBody7n eBody7c eSig8 R w := by kernel_rfl
theorem cachetteref06_Right.ok (eWriter1 : Int) (eIndex2 : Int) (ePrev3 : Int) (eAtT4 : Int) (eAtW5 : Int) (eEpoch6 : Int) (eBody7a : Option Addr) (eBody7n : Nat) (eBody7c : Nat) (eSig8 : Int) {R : Value → World → Prop} {w : World} (h : cachetteref06_Right.M eWriter1 eIndex2 ePrev3 eAtT4 eAtW5 eEpoch6 eBody7a eBody7n eBody7c eSig8 R w) : Calls Try.prog 57 #[.agg #[.int .i64 eWriter1, .int .i64 eIndex2, .int .u64 ePrev3, .int .i64 eAtT4, .int .i64 eAtW5, .int .i64 eEpoch6, .slice eBody7a eBody7n eBody7c, .int .u64 eSig8]] w fun e w' => ∃ v, e = .returned v ∧ R v w' :=
  mfunc_ok follows (H := []) (args := [.agg #[.int .i64 eWriter1, .int .i64 eIndex2, .int .u64 ePrev3, .int .i64 eAtT4, .int .i64 eAtW5, .int .i64 eEpoch6, .slice eBody7a eBody7n eBody7c, .int .u64 eSig8]]) (by rw [cachetteref06_Right.eq]; exact h)

def cachetteref06_Right.N (eWriter1 : Int) (eIndex2 : Int) (ePrev3 : Int) (eAtT4 : Int) (eAtW5 : Int) (eEpoch6 : Int) (eBody7a : Option Addr) (eBody7n : Nat) (eBody7c : Nat) (eSig8 : Int) (R : Value → World → Prop) (w : World) : Prop :=
  (eWriter1 ≥ 0 →
    (eWriter1 < 8 →
      (eIndex2 ≥ 0 →
        (eIndex2 < 200 →
          ((ePrev3 == 0) = (eIndex2 == 0) →
            ((cachetteref04_Right.F eAtT4 eAtW5) = true →
              (eAtW5 = eWriter1 →
                (eEpoch6 ≥ (-1) →
                  (eEpoch6 < 20 →
                    ∀ (ww15 : World), Ext no w ww15 →
                    R (.bool (decide ((eBody7n : Int) ≤ 1100))) ww15) ∧
                  ((20 : Int) ≤ eEpoch6 →
                    ∀ (ww15 : World), Ext no w ww15 →
                    R (.bool false) ww15)) ∧
                (eEpoch6 < (-1) →
                  ∀ (ww15 : World), Ext no w ww15 →
                  R (.bool false) ww15)) ∧
              (eAtW5 ≠ eWriter1 →
                ∀ (ww15 : World), Ext no w ww15 →
                R (.bool false) ww15)) ∧
            ((cachetteref04_Right.F eAtT4 eAtW5) = false →
              ∀ (ww15 : World), Ext no w ww15 →
              R (.bool false) ww15)) ∧
          ((ePrev3 == 0) ≠ (eIndex2 == 0) →
            ∀ (ww9 : World), Ext no w ww9 →
            R (.bool false) ww9)) ∧
        ((200 : Int) ≤ eIndex2 →
          ∀ (ww9 : World), Ext no w ww9 →
          R (.bool false) ww9)) ∧
      (eIndex2 < 0 →
        ∀ (ww9 : World), Ext no w ww9 →
        R (.bool false) ww9)) ∧
    ((8 : Int) ≤ eWriter1 →
      ∀ (ww9 : World), Ext no w ww9 →
      R (.bool false) ww9)) ∧
  (eWriter1 < 0 →
    ∀ (ww9 : World), Ext no w ww9 →
    R (.bool false) ww9)

theorem cachetteref06_Right.up (eWriter1 : Int) (eIndex2 : Int) (ePrev3 : Int) (eAtT4 : Int) (eAtW5 : Int) (eEpoch6 : Int) (eBody7a : Option Addr) (eBody7n : Nat) (eBody7c : Nat) (eSig8 : Int) {R : Value → World → Prop} {w : World} (h : cachetteref06_Right.N eWriter1 eIndex2 ePrev3 eAtT4 eAtW5 eEpoch6 eBody7a eBody7n eBody7c eSig8 R w) : cachetteref06_Right.M eWriter1 eIndex2 ePrev3 eAtT4 eAtW5 eEpoch6 eBody7a eBody7n eBody7c eSig8 R w := by
  unfold cachetteref06_Right.M
  unfold cachetteref06_Right.N at h
  refine thenW_in fun ww9 e9 => ?_
  have hb1 := Blk.of_new e9
  have hg1 := ((Ext.refl no w)).size
  have hx9 := (Ext.refl no w).x_alloc e9
  refine ⟨eWriter1, hb1.celli 0 rfl rfl, ?_⟩
  refine bif_of (fun c10 => ?_) (fun c10 => ?_)
  · have h := h.1 (of_decide_eq_true c10)
    refine ⟨eWriter1, hb1.celli 0 rfl rfl, ?_⟩
    refine bif_of (fun c11 => ?_) (fun c11 => ?_)
    · have h := h.1 (of_decide_eq_true c11)
      refine ⟨eIndex2, hb1.celli 1 rfl rfl, ?_⟩
      refine bif_of (fun c12 => ?_) (fun c12 => ?_)
      · have h := h.1 (of_decide_eq_true c12)
        refine ⟨eIndex2, hb1.celli 1 rfl rfl, ?_⟩
        refine bif_of (fun c13 => ?_) (fun c13 => ?_)
        · have h := h.1 (of_decide_eq_true c13)
          refine ⟨ePrev3, hb1.celli 2 rfl rfl, ?_⟩
          refine ⟨eIndex2, hb1.celli 1 rfl rfl, ?_⟩
          refine bif_of (fun c14 => ?_) (fun c14 => ?_)
          · have h := h.1 (bbeq_t c14)
            refine ⟨eAtT4, eAtW5, ⟨hb1.celli 3 rfl rfl, hb1.celli 4 rfl rfl, trivial⟩, ?_⟩
            refine (cachetteref04_Right.pure eAtT4 eAtW5).mono fun ee ww15 ⟨he, hxx⟩ => ⟨(cachetteref04_Right.F eAtT4 eAtW5), he, ?_⟩
            have hx15 := hx9.trans hxx
            have hb1 := hb1.ext hxx id
            refine bif_of (fun c16 => ?_) (fun c16 => ?_)
            · have h := h.1 c16
              refine ⟨eAtW5, hb1.celli 4 rfl rfl, ?_⟩
              refine ⟨eWriter1, hb1.celli 0 rfl rfl, ?_⟩
              refine bif_of (fun c17 => ?_) (fun c17 => ?_)
              · have h := h.1 (beq_t c17)
                refine ⟨eEpoch6, hb1.celli 5 rfl rfl, ?_⟩
                refine bif_of (fun c18 => ?_) (fun c18 => ?_)
                · have h := h.1 (of_decide_eq_true c18)
                  refine ⟨eEpoch6, hb1.celli 5 rfl rfl, ?_⟩
                  refine bif_of (fun c19 => ?_) (fun c19 => ?_)
                  · have h := h.1 (of_decide_eq_true c19)
                    refine ⟨eBody7a, eBody7n, eBody7c, hb1.celli 6 rfl rfl, ?_⟩
                    have h := h ww15 hx15
                    exact h
                  · have h := h.2 (Int.not_lt.1 (of_decide_eq_false c19))
                    have h := h ww15 hx15
                    exact h
                · have h := h.2 (Int.not_le.1 (of_decide_eq_false c18))
                  have h := h ww15 hx15
                  exact h
              · have h := h.2 (beq_f c17)
                have h := h ww15 hx15
                exact h
            · have h := h.2 c16
              have h := h ww15 hx15
              exact h
          · have h := h.2 (bbeq_f c14)
            have h := h ww9 hx9
            exact h
        · have h := h.2 (Int.not_lt.1 (of_decide_eq_false c13))
          have h := h ww9 hx9
          exact h
      · have h := h.2 (Int.not_le.1 (of_decide_eq_false c12))
        have h := h ww9 hx9
        exact h
    · have h := h.2 (Int.not_lt.1 (of_decide_eq_false c11))
      have h := h ww9 hx9
      exact h
  · have h := h.2 (Int.not_le.1 (of_decide_eq_false c10))
    have h := h ww9 hx9
    exact h

theorem cachetteref06_Right.go (eWriter1 : Int) (eIndex2 : Int) (ePrev3 : Int) (eAtT4 : Int) (eAtW5 : Int) (eEpoch6 : Int) (eBody7a : Option Addr) (eBody7n : Nat) (eBody7c : Nat) (eSig8 : Int) {R : Value → World → Prop} {w : World} (h : cachetteref06_Right.N eWriter1 eIndex2 ePrev3 eAtT4 eAtW5 eEpoch6 eBody7a eBody7n eBody7c eSig8 R w) : Calls Try.prog 57 #[.agg #[.int .i64 eWriter1, .int .i64 eIndex2, .int .u64 ePrev3, .int .i64 eAtT4, .int .i64 eAtW5, .int .i64 eEpoch6, .slice eBody7a eBody7n eBody7c, .int .u64 eSig8]] w fun e w' => ∃ v, e = .returned v ∧ R v w' := cachetteref06_Right.ok eWriter1 eIndex2 ePrev3 eAtT4 eAtW5 eEpoch6 eBody7a eBody7n eBody7c eSig8 (cachetteref06_Right.up eWriter1 eIndex2 ePrev3 eAtT4 eAtW5 eEpoch6 eBody7a eBody7n eBody7c eSig8 h)
theorem cachetteref06_Right.run (eWriter1 : Int) (eIndex2 : Int) (ePrev3 : Int) (eAtT4 : Int) (eAtW5 : Int) (eEpoch6 : Int) (eBody7a : Option Addr) (eBody7n : Nat) (eBody7c : Nat) (eSig8 : Int) {V : Value} {Q : World → Prop} {w : World} (h : cachetteref06_Right.N eWriter1 eIndex2 ePrev3 eAtT4 eAtW5 eEpoch6 eBody7a eBody7n eBody7c eSig8 (fun v w' => v = V ∧ Q w') w) : Calls Try.prog 57 #[.agg #[.int .i64 eWriter1, .int .i64 eIndex2, .int .u64 ePrev3, .int .i64 eAtT4, .int .i64 eAtW5, .int .i64 eEpoch6, .slice eBody7a eBody7n eBody7c, .int .u64 eSig8]] w (Ret V Q) := (cachetteref06_Right.go eWriter1 eIndex2 ePrev3 eAtT4 eAtW5 eEpoch6 eBody7a eBody7n eBody7c eSig8 h).mono fun e w' ⟨v, he, hv, hq⟩ => ⟨by rw [he, hv], hq⟩

def cachetteref06_Right.F (eWriter1 : Int) (eIndex2 : Int) (ePrev3 : Int) (eAtT4 : Int) (eAtW5 : Int) (eEpoch6 : Int) (eBody7a : Option Addr) (eBody7n : Nat) (eBody7c : Nat) (eSig8 : Int) : Bool :=
  if eWriter1 ≥ 0 then
    if eWriter1 < 8 then
      if eIndex2 ≥ 0 then
        if eIndex2 < 200 then
          if (ePrev3 == 0) = (eIndex2 == 0) then
            if (cachetteref04_Right.F eAtT4 eAtW5) = true then
              if eAtW5 = eWriter1 then
                if eEpoch6 ≥ (-1) then
                  if eEpoch6 < 20 then
                    (decide ((eBody7n : Int) ≤ 1100))
                  else
                    false
                else
                  false
              else
                false
            else
              false
          else
            false
        else
          false
      else
        false
    else
      false
  else
    false
theorem cachetteref06_Right.pure (eWriter1 : Int) (eIndex2 : Int) (ePrev3 : Int) (eAtT4 : Int) (eAtW5 : Int) (eEpoch6 : Int) (eBody7a : Option Addr) (eBody7n : Nat) (eBody7c : Nat) (eSig8 : Int) {w : World} : Calls Try.prog 57 #[.agg #[.int .i64 eWriter1, .int .i64 eIndex2, .int .u64 ePrev3, .int .i64 eAtT4, .int .i64 eAtW5, .int .i64 eEpoch6, .slice eBody7a eBody7n eBody7c, .int .u64 eSig8]] w (Ret (.bool (cachetteref06_Right.F eWriter1 eIndex2 ePrev3 eAtT4 eAtW5 eEpoch6 eBody7a eBody7n eBody7c eSig8)) fun w' => Ext no w w') := by
  refine cachetteref06_Right.run eWriter1 eIndex2 ePrev3 eAtT4 eAtW5 eEpoch6 eBody7a eBody7n eBody7c eSig8 ?_
  unfold cachetteref06_Right.N
  refine ⟨fun c0 => ?_, fun c0 => ?_⟩
  · refine ⟨fun c1 => ?_, fun c1 => ?_⟩
    · refine ⟨fun c2 => ?_, fun c2 => ?_⟩
      · refine ⟨fun c3 => ?_, fun c3 => ?_⟩
        · refine ⟨fun c4 => ?_, fun c4 => ?_⟩
          · refine ⟨fun c5 => ?_, fun c5 => ?_⟩
            · refine ⟨fun c6 => ?_, fun c6 => ?_⟩
              · refine ⟨fun c7 => ?_, fun c7 => ?_⟩
                · refine ⟨fun c8 => ?_, fun c8 => ?_⟩
                  · intro w' hx; exact ⟨by unfold cachetteref06_Right.F; rw [if_pos c0, if_pos c1, if_pos c2, if_pos c3, if_pos c4, if_pos c5, if_pos c6, if_pos c7, if_pos c8], hx⟩
                  · intro w' hx; exact ⟨by unfold cachetteref06_Right.F; rw [if_pos c0, if_pos c1, if_pos c2, if_pos c3, if_pos c4, if_pos c5, if_pos c6, if_pos c7, if_neg (by omega)], hx⟩
                · intro w' hx; exact ⟨by unfold cachetteref06_Right.F; rw [if_pos c0, if_pos c1, if_pos c2, if_pos c3, if_pos c4, if_pos c5, if_pos c6, if_neg (by omega)], hx⟩
              · intro w' hx; exact ⟨by unfold cachetteref06_Right.F; rw [if_pos c0, if_pos c1, if_pos c2, if_pos c3, if_pos c4, if_pos c5, if_neg c6], hx⟩
            · intro w' hx; exact ⟨by unfold cachetteref06_Right.F; rw [if_pos c0, if_pos c1, if_pos c2, if_pos c3, if_pos c4, if_neg (by rw [c5]; decide)], hx⟩
          · intro w' hx; exact ⟨by unfold cachetteref06_Right.F; rw [if_pos c0, if_pos c1, if_pos c2, if_pos c3, if_neg c4], hx⟩
        · intro w' hx; exact ⟨by unfold cachetteref06_Right.F; rw [if_pos c0, if_pos c1, if_pos c2, if_neg (by omega)], hx⟩
      · intro w' hx; exact ⟨by unfold cachetteref06_Right.F; rw [if_pos c0, if_pos c1, if_neg (by omega)], hx⟩
    · intro w' hx; exact ⟨by unfold cachetteref06_Right.F; rw [if_pos c0, if_neg (by omega)], hx⟩
  · intro w' hx; exact ⟨by unfold cachetteref06_Right.F; rw [if_neg (by omega)], hx⟩

/-- an entry. -/
structure Ent where
  w : Int
  i : Int
  pv : Int
  t : Int
  tw : Int
  ep : Int
  body : List UInt8
  sg : Int
deriving DecidableEq
def Ent.zero : Ent := ⟨0, 0, 0, 0, 0, 0, [], 0⟩
/-- its cells; where the bytes of its body lie. -/
def entC (e : Ent) (a : Option Addr) (c : Nat) : List Value := [.int .i64 e.w, .int .i64 e.i, .int .u64 e.pv, .int .i64 e.t, .int .i64 e.tw, .int .i64 e.ep, .slice a e.body.length c, .int .u64 e.sg]
def entV (e : Ent) (a : Option Addr) (c : Nat) : Value := .agg #[.int .i64 e.w, .int .i64 e.i, .int .u64 e.pv, .int .i64 e.t, .int .i64 e.tw, .int .i64 e.ep, .slice a e.body.length c, .int .u64 e.sg]
/-- numbers that are of their kinds. -/
structure Ent.fit (e : Ent) : Prop where
  pv0 : 0 ≤ e.pv
  pv1 : e.pv < 18446744073709551616
  sg0 : 0 ≤ e.sg
  sg1 : e.sg < 18446744073709551616
def entRight (e : Ent) : Bool := decide (0 ≤ e.w ∧ e.w < 8 ∧ 0 ≤ e.i ∧ e.i < 200 ∧ -1 ≤ e.ep ∧ e.ep < 20 ∧ 0 < e.t ∧ e.t ≤ 1099511627776 ∧ e.tw = e.w ∧ e.body.length ≤ 1100 ∧ (e.pv = 0 ↔ e.i = 0))
theorem beq_dec (x y : Int) : ((x == 0) == (y == 0)) = decide (x = 0 ↔ y = 0) := by
  rw [Bool.eq_iff_iff, decide_eq_true_eq, beq_iff_eq, Bool.eq_iff_iff, beq_iff_eq, beq_iff_eq]
theorem within_F (n a b : Int) : entry_within.F n a b = decide (a ≤ n ∧ n < b) := by
  unfold entry_within.F
  by_cases h : n ≥ a
  · rw [if_pos h, decide_eq_decide]; omega
  · rw [if_neg h, eq_comm, decide_eq_false_iff_not]; omega
theorem stampRight_F (t w : Int) : stamp_Right.F t w = decide (0 < t ∧ t ≤ 1099511627776 ∧ 0 ≤ w ∧ w < 8) := by
  unfold stamp_Right.F stamp_member.F
  by_cases h : t > 0
  · rw [if_pos h]
    by_cases h1 : t ≤ 1099511627776
    · rw [if_pos h1]
      by_cases h2 : w ≥ 0
      · rw [if_pos h2, decide_eq_decide]; omega
      · rw [if_neg h2, eq_comm, decide_eq_false_iff_not]; omega
    · rw [if_neg h1, eq_comm, decide_eq_false_iff_not]; omega
  · rw [if_neg h, eq_comm, decide_eq_false_iff_not]; omega
theorem refStamp_F (t w : Int) : cachetteref04_Right.F t w = decide (0 < t ∧ t ≤ 1099511627776 ∧ 0 ≤ w ∧ w < 8) := by
  unfold cachetteref04_Right.F
  by_cases h : t ≥ 1
  · rw [if_pos h]
    by_cases h1 : t ≤ 1099511627776
    · rw [if_pos h1]
      by_cases h2 : w ≥ 0
      · rw [if_pos h2, decide_eq_decide]; omega
      · rw [if_neg h2, eq_comm, decide_eq_false_iff_not]; omega
    · rw [if_neg h1, eq_comm, decide_eq_false_iff_not]; omega
  · rw [if_neg h, eq_comm, decide_eq_false_iff_not]; omega
theorem entRight_F (e : Ent) (a : Option Addr) (c : Nat) : entry_Right.F e.w e.i e.pv e.t e.tw e.ep a e.body.length c e.sg = entRight e := by
  unfold entry_Right.F entRight
  rw [beq_dec]
  simp only [within_F, stampRight_F, decide_eq_false_iff_not]
  rw [Bool.eq_iff_iff, decide_eq_true_eq]
  (repeat' split) <;> simp only [Bool.false_eq_true, decide_eq_true_eq, false_iff] <;> omega
theorem refRight_F (e : Ent) (a : Option Addr) (c : Nat) : cachetteref06_Right.F e.w e.i e.pv e.t e.tw e.ep a e.body.length c e.sg = entRight e := by
  unfold cachetteref06_Right.F entRight
  have h : ((e.pv == 0) = (e.i == 0)) ↔ (e.pv = 0 ↔ e.i = 0) := by rw [Bool.eq_iff_iff]; simp
  simp only [refStamp_F, h, decide_eq_true_eq, decide_eq_false_iff_not]
  rw [Bool.eq_iff_iff, decide_eq_true_eq]
  (repeat' split) <;> simp only [Bool.false_eq_true, decide_eq_true_eq, false_iff] <;> omega
def stampL (t w : Int) : List UInt8 := numL (zig t) ++ numL w.toNat
def textL (e : Ent) : List UInt8 := numL e.w.toNat ++ numL e.i.toNat ++ numL e.pv.toNat ++ stampL e.t e.tw ++ numL (zig e.ep) ++ (numL e.body.length ++ e.body)
def bytesL (e : Ent) : List UInt8 := textL e ++ numL e.sg.toNat
def boundL (w i e : Int) : List UInt8 := numL w.toNat ++ numL i.toNat ++ numL (zig e)
theorem stampL_le (t w : Int) : (stampL t w).length ≤ 20 := by
  have h1 := W.numL_le (zig t); have h2 := W.numL_le w.toNat
  unfold stampL; rw [List.length_append]; omega
theorem textL_le (e : Ent) : (textL e).length ≤ 70 + e.body.length := by
  have h1 := W.numL_le e.w.toNat; have h2 := W.numL_le e.i.toNat; have h3 := W.numL_le e.pv.toNat; have h4 := stampL_le e.t e.tw; have h5 := W.numL_le (zig e.ep); have h6 := W.numL_le e.body.length
  unfold textL; simp only [List.length_append]; omega
theorem bytesL_le (e : Ent) : (bytesL e).length ≤ 80 + e.body.length := by
  have h1 := textL_le e; have h2 := W.numL_le e.sg.toNat
  unfold bytesL; rw [List.length_append]; omega
/-- what is read of a stamp, of an entry. -/
def stampR (s : RS) : (Int × Nat) × RS := (((intR s).1, (countR 7 (intR s).2).1), (countR 7 (intR s).2).2)
def entR1 (s : RS) : RS := (countR 7 s).2
def entR2 (s : RS) : RS := (countR 199 (entR1 s)).2
def entR3 (s : RS) : RS := (numR (entR2 s)).2
def entR4 (s : RS) : RS := (stampR (entR3 s)).2
def entR5 (s : RS) : RS := (intR (entR4 s)).2
def entR6 (s : RS) : RS := (bytesR 1100 (entR5 s)).2
def entR7 (s : RS) : RS := (numR (entR6 s)).2
def entR (s : RS) : Ent := ⟨(countR 7 s).1, (countR 199 (entR1 s)).1, (numR (entR2 s)).1, (stampR (entR3 s)).1.1, (stampR (entR3 s)).1.2, (intR (entR4 s)).1, (bytesR 1100 (entR5 s)).1, (numR (entR6 s)).1⟩
def readE (b : List UInt8) : Ent × Int :=
  if doneR (entR7 (b, 0)) ≠ 0 then (Ent.zero, doneR (entR7 (b, 0))) else if entRight (entR (b, 0)) = true then (entR (b, 0), 0) else (Ent.zero, 4)
theorem intR_len (s : RS) : (intR s).2.1.length ≤ s.1.length := W.numR_len s
theorem stampR_len (s : RS) : (stampR s).2.1.length ≤ s.1.length := Nat.le_trans (W.countR_len 7 _) (intR_len s)
theorem entR_len (s : RS) : (entR1 s).1.length ≤ s.1.length ∧ (entR2 s).1.length ≤ s.1.length ∧ (entR3 s).1.length ≤ s.1.length ∧ (entR4 s).1.length ≤ s.1.length ∧ (entR5 s).1.length ≤ s.1.length ∧ (entR6 s).1.length ≤ s.1.length ∧ (entR7 s).1.length ≤ s.1.length := by
  have h1 : (entR1 s).1.length ≤ s.1.length := W.countR_len 7 s
  have h2 : (entR2 s).1.length ≤ (entR1 s).1.length := W.countR_len 199 _
  have h3 : (entR3 s).1.length ≤ (entR2 s).1.length := W.numR_len _
  have h4 : (entR4 s).1.length ≤ (entR3 s).1.length := stampR_len _
  have h5 : (entR5 s).1.length ≤ (entR4 s).1.length := intR_len _
  have h6 : (entR6 s).1.length ≤ (entR5 s).1.length := (bytesR_len 1100 _).1
  have h7 : (entR7 s).1.length ≤ (entR6 s).1.length := W.numR_len _
  omega
/-! ### the plain law -/
theorem zig_small {t : Int} (h0 : -9223372036854775808 ≤ t) (h1 : t < 9223372036854775808) (r : List UInt8) : intR (numL (zig t) ++ r, 0) = (t, (r, 0)) := by
  unfold intR
  rw [W.numR_write (W.zig_lt h0 h1), W.unzig_zig]
theorem takeR_write (x r : List UInt8) : takeR x.length (x ++ r, 0) = (x, (r, 0)) := by
  unfold takeR
  rw [if_pos rfl, if_neg (by simp), List.take_left' rfl, List.drop_left' rfl]
theorem bytesR_write {m : Int} {x : List UInt8} (hm : (x.length : Int) ≤ m) (hx : x.length < 18446744073709551616) (r : List UInt8) : bytesR m (numL x.length ++ (x ++ r), 0) = (x, (r, 0)) := by
  unfold bytesR
  rw [W.countR_write hx hm, takeR_write]
theorem takeR_good {n : Nat} {s : RS} (h : (takeR n s).2.2 = 0) : s.2 = 0 ∧ s.1 = (takeR n s).1 ++ (takeR n s).2.1 ∧ (takeR n s).1.length = n := by
  unfold takeR at h ⊢
  by_cases h0 : s.2 = 0
  · rw [if_pos h0] at h ⊢
    by_cases h1 : s.1.length < n
    · rw [if_pos h1] at h; exact absurd h (by decide)
    · rw [if_neg h1]
      exact ⟨h0, (List.take_append_drop n s.1).symm, by simp; omega⟩
  · rw [if_neg h0] at h; exact absurd h h0
theorem bytesR_good {m : Int} {s : RS} (h : (bytesR m s).2.2 = 0) : s.2 = 0 ∧ s.1 = numL (bytesR m s).1.length ++ ((bytesR m s).1 ++ (bytesR m s).2.1) := by
  unfold bytesR at h ⊢
  obtain ⟨h1, h2, h3⟩ := takeR_good h
  obtain ⟨h4, h5⟩ := W.countR_good h1
  refine ⟨h4, ?_⟩
  rw [h3, ← h2]; exact h5
theorem intR_good {s : RS} (h : (intR s).2.2 = 0) : s.2 = 0 ∧ s.1 = numL (zig (intR s).1) ++ (intR s).2.1 := by
  unfold intR at h ⊢
  obtain ⟨h1, h2⟩ := W.numR_good h
  exact ⟨h1, by rw [W.zig_unzig]; exact h2⟩
theorem unzig_range {m : Nat} (h : m < 18446744073709551616) : -9223372036854775808 ≤ unzig m ∧ unzig m < 9223372036854775808 := by
  unfold unzig; split <;> omega
theorem intR_range (s : RS) : -9223372036854775808 ≤ (intR s).1 ∧ (intR s).1 < 9223372036854775808 := unzig_range (W.numR_lt s)
theorem entRight_iff (e : Ent) : entRight e = true ↔ (0 ≤ e.w ∧ e.w < 8 ∧ 0 ≤ e.i ∧ e.i < 200 ∧ -1 ≤ e.ep ∧ e.ep < 20 ∧ 0 < e.t ∧ e.t ≤ 1099511627776 ∧ e.tw = e.w ∧ e.body.length ≤ 1100 ∧ (e.pv = 0 ↔ e.i = 0)) := decide_eq_true_iff
theorem entR_write {e : Ent} (h : entRight e = true) (hf : e.fit) (r : List UInt8) : entR (bytesL e ++ r, 0) = e ∧ entR7 (bytesL e ++ r, 0) = (r, 0) := by
  obtain ⟨h1, h2, h3, h4, h5, h6, h7, h8, h9, h10, h11⟩ := (entRight_iff e).1 h
  obtain ⟨l2, l3, l4, l5, l6, l7, l8, e1, rfl, rfl, rfl, rfl, rfl, rfl, rfl⟩ : ∃ l2 l3 l4 l5 l6 l7 l8, bytesL e ++ r = numL e.w.toNat ++ l2 ∧ l2 = numL e.i.toNat ++ l3 ∧ l3 = numL e.pv.toNat ++ l4 ∧ l4 = numL (zig e.t) ++ l5 ∧ l5 = numL e.tw.toNat ++ l6 ∧ l6 = numL (zig e.ep) ++ l7 ∧
      l7 = numL e.body.length ++ (e.body ++ l8) ∧ l8 = numL e.sg.toNat ++ r := ⟨_, _, _, _, _, _, _, by unfold bytesL textL stampL; simp only [List.append_assoc], rfl, rfl, rfl, rfl, rfl, rfl, rfl⟩
  have f1 := hf.pv0; have f2 := hf.pv1; have f3 := hf.sg0; have f4 := hf.sg1
  have q1 := W.countR_write (n := e.w.toNat) (m := 7) (by omega) (by omega) (numL e.i.toNat ++ (numL e.pv.toNat ++ (numL (zig e.t) ++ (numL e.tw.toNat ++ (numL (zig e.ep) ++ (numL e.body.length ++ (e.body ++ (numL e.sg.toNat ++ r))))))))
  rw [← e1] at q1
  have q2 := W.countR_write (n := e.i.toNat) (m := 199) (by omega) (by omega) (numL e.pv.toNat ++ (numL (zig e.t) ++ (numL e.tw.toNat ++ (numL (zig e.ep) ++ (numL e.body.length ++ (e.body ++ (numL e.sg.toNat ++ r)))))))
  have p1 : entR1 (bytesL e ++ r, 0) = (numL e.i.toNat ++ (numL e.pv.toNat ++ (numL (zig e.t) ++ (numL e.tw.toNat ++ (numL (zig e.ep) ++ (numL e.body.length ++ (e.body ++ (numL e.sg.toNat ++ r))))))), 0) := congrArg Prod.snd q1
  rw [← p1] at q2
  have q3 := W.numR_write (n := e.pv.toNat) (by omega) (numL (zig e.t) ++ (numL e.tw.toNat ++ (numL (zig e.ep) ++ (numL e.body.length ++ (e.body ++ (numL e.sg.toNat ++ r))))))
  have p2 : entR2 (bytesL e ++ r, 0) = (numL e.pv.toNat ++ (numL (zig e.t) ++ (numL e.tw.toNat ++ (numL (zig e.ep) ++ (numL e.body.length ++ (e.body ++ (numL e.sg.toNat ++ r)))))), 0) := congrArg Prod.snd q2
  rw [← p2] at q3
  have q4 := zig_small (t := e.t) (by omega) (by omega) (numL e.tw.toNat ++ (numL (zig e.ep) ++ (numL e.body.length ++ (e.body ++ (numL e.sg.toNat ++ r)))))
  have p3 : entR3 (bytesL e ++ r, 0) = (numL (zig e.t) ++ (numL e.tw.toNat ++ (numL (zig e.ep) ++ (numL e.body.length ++ (e.body ++ (numL e.sg.toNat ++ r))))), 0) := congrArg Prod.snd q3
  rw [← p3] at q4
  have q5 := W.countR_write (n := e.tw.toNat) (m := 7) (by omega) (by omega) (numL (zig e.ep) ++ (numL e.body.length ++ (e.body ++ (numL e.sg.toNat ++ r))))
  have p5 : (intR (entR3 (bytesL e ++ r, 0))).2 = (numL e.tw.toNat ++ (numL (zig e.ep) ++ (numL e.body.length ++ (e.body ++ (numL e.sg.toNat ++ r)))), 0) := congrArg Prod.snd q4
  rw [← p5] at q5
  have q6 := zig_small (t := e.ep) (by omega) (by omega) (numL e.body.length ++ (e.body ++ (numL e.sg.toNat ++ r)))
  have p6 : entR4 (bytesL e ++ r, 0) = (numL (zig e.ep) ++ (numL e.body.length ++ (e.body ++ (numL e.sg.toNat ++ r))), 0) := congrArg Prod.snd q5
  rw [← p6] at q6
  have q7 := bytesR_write (x := e.body) (m := 1100) (by omega) (by omega) (numL e.sg.toNat ++ r)
  have p7 : entR5 (bytesL e ++ r, 0) = (numL e.body.length ++ (e.body ++ (numL e.sg.toNat ++ r)), 0) := congrArg Prod.snd q6
  rw [← p7] at q7
  have q8 := W.numR_write (n := e.sg.toNat) (by omega) r
  have p8 : entR6 (bytesL e ++ r, 0) = (numL e.sg.toNat ++ r, 0) := congrArg Prod.snd q7
  rw [← p8] at q8
  refine ⟨?_, congrArg Prod.snd q8⟩
  unfold entR stampR
  rw [q1, q2, q3, q5, q4, q6, q7, q8]
  simp only
  obtain ⟨w, i, pv, t, tw, ep, body, sg⟩ := e
  simp only at *
  rw [Int.toNat_of_nonneg h1, Int.toNat_of_nonneg h3, Int.toNat_of_nonneg f1, Int.toNat_of_nonneg (by omega : 0 ≤ tw), Int.toNat_of_nonneg f3]
theorem readE_write {e : Ent} (h : entRight e = true) (hf : e.fit) : readE (bytesL e) = (e, 0) := by
  obtain ⟨h1, h2⟩ := entR_write h hf []
  rw [List.append_nil] at h1 h2
  unfold readE
  rw [h2, h1, if_neg (by simp [doneR]), if_pos h]
theorem entR_good {s : RS} (h : (entR7 s).2 = 0) : s.2 = 0 ∧ s.1 = bytesL (entR s) ++ (entR7 s).1 ∧ (entR s).fit := by
  obtain ⟨a8, b8⟩ := W.numR_good (s := entR6 s) h
  obtain ⟨a7, b7⟩ := bytesR_good (s := entR5 s) a8
  obtain ⟨a6, b6⟩ := intR_good (s := entR4 s) a7
  obtain ⟨a5, b5⟩ := W.countR_good (s := (intR (entR3 s)).2) a6
  obtain ⟨a4, b4⟩ := intR_good (s := entR3 s) a5
  obtain ⟨a3, b3⟩ := W.numR_good (s := entR2 s) a4
  obtain ⟨a2, b2⟩ := W.countR_good (s := entR1 s) a3
  obtain ⟨a1, b1⟩ := W.countR_good (s := s) a2
  refine ⟨a1, ?_, ⟨Int.natCast_nonneg _, ?_, Int.natCast_nonneg _, ?_⟩⟩
  · rw [b1]
    show _ ++ (entR1 s).1 = _
    rw [b2]
    show _ ++ (_ ++ (entR2 s).1) = _
    rw [b3]
    show _ ++ (_ ++ (_ ++ (entR3 s).1)) = _
    rw [b4, b5]
    show _ ++ (_ ++ (_ ++ (_ ++ (_ ++ (entR4 s).1)))) = _
    rw [b6]
    show _ ++ (_ ++ (_ ++ (_ ++ (_ ++ (_ ++ (entR5 s).1))))) = _
    rw [b7]
    show _ ++ (_ ++ (_ ++ (_ ++ (_ ++ (_ ++ (_ ++ (_ ++ (entR6 s).1))))))) = _
    rw [b8]
    show _ ++ (_ ++ (_ ++ (_ ++ (_ ++ (_ ++ (_ ++ (_ ++ (_ ++ (entR7 s).1)))))))) = _
    unfold bytesL textL stampL
    simp only [List.append_assoc]
    rfl
  · exact Int.ofNat_lt.2 (W.numR_lt (entR2 s))
  · exact Int.ofNat_lt.2 (W.numR_lt (entR6 s))
theorem doneR_zero {s : RS} (h : doneR s = 0) : s = ([], 0) := by
  obtain ⟨l, k⟩ := s
  unfold doneR at h
  by_cases h0 : k = 0
  · subst h0
    simp only [if_true] at h
    by_cases h1 : l.length > 0
    · rw [if_pos h1] at h; exact absurd h (by decide)
    · rw [List.eq_nil_of_length_eq_zero (by omega : l.length = 0)]
  · rw [if_neg h0] at h; exact absurd h h0
/-- what is read is its. -/
theorem readE_back {b : List UInt8} (h : (readE b).2 = 0) : bytesL (readE b).1 = b ∧ entRight (readE b).1 = true ∧ (readE b).1.fit := by
  unfold readE at h ⊢
  by_cases h0 : doneR (entR7 (b, 0)) ≠ 0
  · rw [if_pos h0] at h; exact absurd h h0
  rw [if_neg h0] at h ⊢
  by_cases h1 : entRight (entR (b, 0)) = true
  · rw [if_pos h1]
    have h2 := doneR_zero (Decidable.not_not.1 h0)
    obtain ⟨g1, g2, g3⟩ := entR_good (s := (b, 0)) (by rw [h2])
    rw [h2, List.append_nil] at g2
    exact ⟨g2.symm, h1, g3⟩
  · rw [if_neg h1] at h; exact absurd h (by decide)
theorem readE_none {b : List UInt8} (h : (readE b).2 ≠ 0) : (readE b).1 = Ent.zero := by
  unfold readE at h ⊢
  split
  · rfl
  · rename_i h0
    rw [if_neg h0] at h
    split
    · rename_i h1; rw [if_pos h1] at h; exact absurd rfl h
    · rfl
/-- right entries of the same bytes are the same. -/
theorem bytesL_inj {e f : Ent} (he : entRight e = true) (hf : entRight f = true) (h1 : e.fit) (h2 : f.fit) (h : bytesL e = bytesL f) : e = f := by
  have := readE_write he h1
  rw [h, readE_write hf h2] at this
  exact (Prod.mk.inj this).1.symm
/-- what is cut off is none. -/
theorem readE_cut {e : Ent} (he : entRight e = true) (hf : e.fit) {n : Nat} (hn : n < (bytesL e).length) : (readE ((bytesL e).take n)).2 ≠ 0 := fun h => by
  obtain ⟨g1, g2, g3⟩ := readE_back h
  generalize (readE ((bytesL e).take n)).1 = f at *
  have h1 := (entR_write g2 g3 ((bytesL e).drop n)).1
  have h2 := (entR_write g2 g3 ((bytesL e).drop n)).2
  rw [g1, List.take_append_drop] at h1 h2
  have h3 := (entR_write he hf []).2
  rw [List.append_nil, h2] at h3
  have h4 := congrArg (fun s => s.1.length) h3
  simp only [List.length_drop, List.length_nil] at h4
  omega
end Go.Proofs.Ytlfijjmjmgobhaa
