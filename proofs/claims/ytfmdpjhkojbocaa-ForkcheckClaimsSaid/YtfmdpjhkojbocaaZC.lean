/- Entries: what is plain of them. -/
import Derived.Test.YtfmdpjhkojbocaaZB
import Derived.Test.YtfmdpjhkojbocaaZA
set_option linter.unusedVariables false
set_option linter.unusedSimpArgs false
set_option maxRecDepth 20000
namespace Go.Proofs.Ytfmdpjhkojbocaa
open Go Go.Mx Go.Proofs
open W (OwnB GivesW numR countR doneR zig unzig intR)
/-- entry.within -/
def entry_within.M (n1 : Int) (a0 : Int) (a1 : Int) (R : Value → World → Prop) (w : World) : Prop :=
 bif decide (n1 ≥ a0) then (
 R (.bool (decide (n1 < a1))) w) else (
 R (.bool false) w)

theorem entry_within.eq (n1 : Int) (least2 : Int) (below3 : Int) (R : Value → World → Prop) (w : World) : mfunc Try.prog [] 63 [.int .i64 n1, .int .i64 least2, .int .i64 below3] R w = entry_within.M n1 least2 below3 R w := by kernel_rfl
theorem entry_within.ok (n1 : Int) (a0 : Int) (a1 : Int) {R : Value → World → Prop} {w : World} (h : entry_within.M n1 a0 a1 R w) : Calls Try.prog 63 #[.int .i64 n1, .int .i64 a0, .int .i64 a1] w fun e w' => ∃ v, e = .returned v ∧ R v w' :=
  mfunc_ok follows (H := []) (args := [.int .i64 n1, .int .i64 a0, .int .i64 a1]) (by rw [entry_within.eq]; exact h)

def entry_within.N (n1 : Int) (a0 : Int) (a1 : Int) (R : Value → World → Prop) (w : World) : Prop :=
 (n1 ≥ a0 →
 R (.bool (decide (n1 < a1))) w) ∧
 (n1 < a0 →
 R (.bool false) w)

theorem entry_within.up (n1 : Int) (a0 : Int) (a1 : Int) {R : Value → World → Prop} {w : World} (h : entry_within.N n1 a0 a1 R w) : entry_within.M n1 a0 a1 R w := by
  unfold entry_within.M
  unfold entry_within.N at h
  refine bif_of (fun c4 => ?_) (fun c4 => ?_)
  · have h := h.1 (of_decide_eq_true c4)
    exact h
  · have h := h.2 (Int.not_le.1 (of_decide_eq_false c4))
    exact h

theorem entry_within.go (n1 : Int) (a0 : Int) (a1 : Int) {R : Value → World → Prop} {w : World} (h : entry_within.N n1 a0 a1 R w) : Calls Try.prog 63 #[.int .i64 n1, .int .i64 a0, .int .i64 a1] w fun e w' => ∃ v, e = .returned v ∧ R v w' := entry_within.ok n1 a0 a1 (entry_within.up n1 a0 a1 h)
theorem entry_within.run (n1 : Int) (a0 : Int) (a1 : Int) {V : Value} {Q : World → Prop} {w : World} (h : entry_within.N n1 a0 a1 (fun v w' => v = V ∧ Q w') w) : Calls Try.prog 63 #[.int .i64 n1, .int .i64 a0, .int .i64 a1] w (Ret V Q) := (entry_within.go n1 a0 a1 h).mono fun e w' ⟨v, he, hv, hq⟩ => ⟨by rw [he, hv], hq⟩

def entry_within.F (n1 : Int) (a0 : Int) (a1 : Int) : Bool :=
  if n1 ≥ a0 then
    (decide (n1 < a1))
  else
    false
theorem entry_within.pure (n1 : Int) (a0 : Int) (a1 : Int) {w : World} : Calls Try.prog 63 #[.int .i64 n1, .int .i64 a0, .int .i64 a1] w (Ret (.bool (entry_within.F n1 a0 a1)) fun w' => Ext no w w') := by
  refine entry_within.run n1 a0 a1 ?_
  unfold entry_within.N
  refine ⟨fun c0 => ?_, fun c0 => ?_⟩
  · exact ⟨by unfold entry_within.F; rw [if_pos c0], Ext.refl _ _⟩
  · exact ⟨by unfold entry_within.F; rw [if_neg (by omega)], Ext.refl _ _⟩

/-- stamp.member -/
def stamp_member.M (a0 : Int) (R : Value → World → Prop) (w : World) : Prop :=
 bif decide (a0 ≥ 0) then (
 R (.bool (decide (a0 < 8))) w) else (
 R (.bool false) w)

theorem stamp_member.eq (wv1 : Int) (R : Value → World → Prop) (w : World) : mfunc Try.prog [] 79 [.int .i64 wv1] R w = stamp_member.M wv1 R w := by kernel_rfl
theorem stamp_member.ok (a0 : Int) {R : Value → World → Prop} {w : World} (h : stamp_member.M a0 R w) : Calls Try.prog 79 #[.int .i64 a0] w fun e w' => ∃ v, e = .returned v ∧ R v w' :=
  mfunc_ok follows (H := []) (args := [.int .i64 a0]) (by rw [stamp_member.eq]; exact h)

def stamp_member.N (a0 : Int) (R : Value → World → Prop) (w : World) : Prop :=
 (a0 ≥ 0 →
 R (.bool (decide (a0 < 8))) w) ∧
 (a0 < 0 →
 R (.bool false) w)

theorem stamp_member.up (a0 : Int) {R : Value → World → Prop} {w : World} (h : stamp_member.N a0 R w) : stamp_member.M a0 R w := by
  unfold stamp_member.M
  unfold stamp_member.N at h
  refine bif_of (fun c2 => ?_) (fun c2 => ?_)
  · have h := h.1 (of_decide_eq_true c2)
    exact h
  · have h := h.2 (Int.not_le.1 (of_decide_eq_false c2))
    exact h

theorem stamp_member.go (a0 : Int) {R : Value → World → Prop} {w : World} (h : stamp_member.N a0 R w) : Calls Try.prog 79 #[.int .i64 a0] w fun e w' => ∃ v, e = .returned v ∧ R v w' := stamp_member.ok a0 (stamp_member.up a0 h)
theorem stamp_member.run (a0 : Int) {V : Value} {Q : World → Prop} {w : World} (h : stamp_member.N a0 (fun v w' => v = V ∧ Q w') w) : Calls Try.prog 79 #[.int .i64 a0] w (Ret V Q) := (stamp_member.go a0 h).mono fun e w' ⟨v, he, hv, hq⟩ => ⟨by rw [he, hv], hq⟩

def stamp_member.F (a0 : Int) : Bool :=
  if a0 ≥ 0 then
    (decide (a0 < 8))
  else
    false
theorem stamp_member.pure (a0 : Int) {w : World} : Calls Try.prog 79 #[.int .i64 a0] w (Ret (.bool (stamp_member.F a0)) fun w' => Ext no w w') := by
  refine stamp_member.run a0 ?_
  unfold stamp_member.N
  refine ⟨fun c0 => ?_, fun c0 => ?_⟩
  · exact ⟨by unfold stamp_member.F; rw [if_pos c0], Ext.refl _ _⟩
  · exact ⟨by unfold stamp_member.F; rw [if_neg (by omega)], Ext.refl _ _⟩

/-- stamp.Right -/
def stamp_Right.M (a3 : Int) (a2 : Int) (R : Value → World → Prop) (w : World) : Prop :=
 thenW (w.alloc (.cells #[.int .i64 a3, .int .i64 a2] 27)) fun a1 =>
 ∃ (T4 : Int), a1.cell? ((blk w.heap.size).add 0) = some (.int .i64 T4) ∧
 bif decide (T4 > 0) then (
 ∃ (T5 : Int), a1.cell? ((blk w.heap.size).add 0) = some (.int .i64 T5) ∧
 bif decide (T5 ≤ 1099511627776) then (
 ∃ (W6 : Int), a1.cell? ((blk w.heap.size).add 1) = some (.int .i64 W6) ∧
 Calls Try.prog 79 #[.int .i64 W6] a1 fun a5 a4 => ∃ (a0 : Bool), a5 = .returned (.bool a0) ∧
 R (.bool a0) a4) else (
 R (.bool false) a1)) else (
 R (.bool false) a1)

theorem stamp_Right.eq (sT1 : Int) (sW2 : Int) (R : Value → World → Prop) (w : World) : mfunc Try.prog [] 64 [.agg #[.int .i64 sT1, .int .i64 sW2]] R w = stamp_Right.M sT1 sW2 R w := by kernel_rfl
theorem stamp_Right.ok (a1 : Int) (a0 : Int) {R : Value → World → Prop} {w : World} (h : stamp_Right.M a1 a0 R w) : Calls Try.prog 64 #[.agg #[.int .i64 a1, .int .i64 a0]] w fun e w' => ∃ v, e = .returned v ∧ R v w' :=
  mfunc_ok follows (H := []) (args := [.agg #[.int .i64 a1, .int .i64 a0]]) (by rw [stamp_Right.eq]; exact h)

def stamp_Right.N (a1 : Int) (a3 : Int) (R : Value → World → Prop) (w : World) : Prop :=
 (a1 > 0 →
 (a1 ≤ 1099511627776 →
 ∀ (a2 : World), Ext no w a2 →
 R (.bool (stamp_member.F a3)) a2) ∧
 ((1099511627776 : Int) < a1 →
 ∀ (a0 : World), Ext no w a0 →
 R (.bool false) a0)) ∧
 (a1 ≤ 0 →
 ∀ (a0 : World), Ext no w a0 →
 R (.bool false) a0)

theorem stamp_Right.up (a1 : Int) (a0 : Int) {R : Value → World → Prop} {w : World} (h : stamp_Right.N a1 a0 R w) : stamp_Right.M a1 a0 R w := by
  unfold stamp_Right.M
  unfold stamp_Right.N at h
  refine thenW_in fun a4 e3 => ?_
  have a2 := Blk.of_new e3
  have a6 := ((Ext.refl no w)).size
  have a3 := (Ext.refl no w).x_alloc e3
  refine ⟨a1, a2.celli 0 rfl rfl, ?_⟩
  refine bif_of (fun c4 => ?_) (fun c4 => ?_)
  · have h := h.1 (of_decide_eq_true c4)
    refine ⟨a1, a2.celli 0 rfl rfl, ?_⟩
    refine bif_of (fun c5 => ?_) (fun c5 => ?_)
    · have h := h.1 (of_decide_eq_true c5)
      refine ⟨a0, a2.celli 1 rfl rfl, ?_⟩
      refine (stamp_member.pure a0).mono fun ee ww6 ⟨he, hxx⟩ => ⟨(stamp_member.F a0), he, ?_⟩
      have a5 := a3.trans hxx
      have h := h ww6 a5
      exact h
    · have h := h.2 (Int.not_le.1 (of_decide_eq_false c5))
      have h := h a4 a3
      exact h
  · have h := h.2 (Int.not_lt.1 (of_decide_eq_false c4))
    have h := h a4 a3
    exact h

theorem stamp_Right.go (a1 : Int) (a0 : Int) {R : Value → World → Prop} {w : World} (h : stamp_Right.N a1 a0 R w) : Calls Try.prog 64 #[.agg #[.int .i64 a1, .int .i64 a0]] w fun e w' => ∃ v, e = .returned v ∧ R v w' := stamp_Right.ok a1 a0 (stamp_Right.up a1 a0 h)
theorem stamp_Right.run (a1 : Int) (a0 : Int) {V : Value} {Q : World → Prop} {w : World} (h : stamp_Right.N a1 a0 (fun v w' => v = V ∧ Q w') w) : Calls Try.prog 64 #[.agg #[.int .i64 a1, .int .i64 a0]] w (Ret V Q) := (stamp_Right.go a1 a0 h).mono fun e w' ⟨v, he, hv, hq⟩ => ⟨by rw [he, hv], hq⟩

def stamp_Right.F (a0 : Int) (a1 : Int) : Bool :=
  if a0 > 0 then
    if a0 ≤ 1099511627776 then
      (stamp_member.F a1)
    else
      false
  else
    false
theorem stamp_Right.pure (a1 : Int) (a0 : Int) {w : World} : Calls Try.prog 64 #[.agg #[.int .i64 a1, .int .i64 a0]] w (Ret (.bool (stamp_Right.F a1 a0)) fun w' => Ext no w w') := by
  refine stamp_Right.run a1 a0 ?_
  unfold stamp_Right.N
  refine ⟨fun c0 => ?_, fun c0 => ?_⟩
  · refine ⟨fun c1 => ?_, fun c1 => ?_⟩
    · intro w' hx; exact ⟨by unfold stamp_Right.F; rw [if_pos c0, if_pos c1], hx⟩
    · intro w' hx; exact ⟨by unfold stamp_Right.F; rw [if_pos c0, if_neg (by omega)], hx⟩
  · intro w' hx; exact ⟨by unfold stamp_Right.F; rw [if_neg (by omega)], hx⟩

/-- entry.Right -/
def entry_Right.M (b1 : Int) (bf : Int) (bn : Int) (bo : Int) (bp : Int) (bb : Int) (be : Option Addr) (b8 : Nat) (b7 : Nat) (bq : Int) (R : Value → World → Prop) (w : World) : Prop :=
 thenW (w.alloc (.cells #[.int .i64 b1, .int .i64 bf, .int .u64 bn, .int .i64 bo, .int .i64 bp, .int .i64 bb, .slice be b8 b7, .int .u64 bq] 29)) fun c1 =>
 ∃ (ac : Int), c1.cell? ((blk w.heap.size).add 0) = some (.int .i64 ac) ∧
 Calls Try.prog 63 #[.int .i64 ac, .int .i64 0, .int .i64 8] c1 fun bx ar => ∃ (a3 : Bool), bx = .returned (.bool a3) ∧
 bif !a3 then (
 bif !a3 then (
 R (.bool false) ar) else (
 ∃ (bj : Int) (bi : Int), cellsAt ar ((blk w.heap.size).add 3) [.int .i64 bj, .int .i64 bi] 0 ∧
 Calls Try.prog 64 #[.agg #[.int .i64 bj, .int .i64 bi]] ar fun bt a2 => ∃ (a9 : Bool), bt = .returned (.bool a9) ∧
 bif !a9 then (
 bif !a9 then (
 R (.bool false) a2) else (
 ∃ (ax : Int), a2.cell? ((blk w.heap.size).add 2) = some (.int .u64 ax) ∧
 ∃ (an : Int), a2.cell? ((blk w.heap.size).add 1) = some (.int .i64 an) ∧
 R (.bool ((ax == 0) == (an == 0))) a2)) else (
 ∃ (bv : Int), a2.cell? (((blk w.heap.size).add 3).add 1) = some (.int .i64 bv) ∧
 ∃ (a5 : Int), a2.cell? ((blk w.heap.size).add 0) = some (.int .i64 a5) ∧
 bif bv != a5 then (
 bif bv != a5 then (
 R (.bool false) a2) else (
 ∃ (b3 : Int), a2.cell? ((blk w.heap.size).add 2) = some (.int .u64 b3) ∧
 ∃ (af : Int), a2.cell? ((blk w.heap.size).add 1) = some (.int .i64 af) ∧
 R (.bool ((b3 == 0) == (af == 0))) a2)) else (
 ∃ (b5 : Option Addr) (ao : Nat) (b6 : Nat), a2.cell? ((blk w.heap.size).add 6) = some (.slice b5 ao b6) ∧
 bif decide ((ao : Int) > 1100) then (
 R (.bool false) a2) else (
 ∃ (b4 : Int), a2.cell? ((blk w.heap.size).add 2) = some (.int .u64 b4) ∧
 ∃ (aq : Int), a2.cell? ((blk w.heap.size).add 1) = some (.int .i64 aq) ∧
 R (.bool ((b4 == 0) == (aq == 0))) a2))))) else (
 ∃ (ak : Int), ar.cell? ((blk w.heap.size).add 1) = some (.int .i64 ak) ∧
 Calls Try.prog 63 #[.int .i64 ak, .int .i64 0, .int .i64 200] ar fun bz az => ∃ (a4 : Bool), bz = .returned (.bool a4) ∧
 bif !a4 then (
 bif !a4 then (
 R (.bool false) az) else (
 ∃ (bg : Int) (bk : Int), cellsAt az ((blk w.heap.size).add 3) [.int .i64 bg, .int .i64 bk] 0 ∧
 Calls Try.prog 64 #[.agg #[.int .i64 bg, .int .i64 bk]] az fun bu a0 => ∃ (aa : Bool), bu = .returned (.bool aa) ∧
 bif !aa then (
 bif !aa then (
 R (.bool false) a0) else (
 ∃ (av : Int), a0.cell? ((blk w.heap.size).add 2) = some (.int .u64 av) ∧
 ∃ (ad : Int), a0.cell? ((blk w.heap.size).add 1) = some (.int .i64 ad) ∧
 R (.bool ((av == 0) == (ad == 0))) a0)) else (
 ∃ (br : Int), a0.cell? (((blk w.heap.size).add 3).add 1) = some (.int .i64 br) ∧
 ∃ (a7 : Int), a0.cell? ((blk w.heap.size).add 0) = some (.int .i64 a7) ∧
 bif br != a7 then (
 bif br != a7 then (
 R (.bool false) a0) else (
 ∃ (au : Int), a0.cell? ((blk w.heap.size).add 2) = some (.int .u64 au) ∧
 ∃ (al : Int), a0.cell? ((blk w.heap.size).add 1) = some (.int .i64 al) ∧
 R (.bool ((au == 0) == (al == 0))) a0)) else (
 ∃ (bc : Option Addr) (ag : Nat) (bd : Nat), a0.cell? ((blk w.heap.size).add 6) = some (.slice bc ag bd) ∧
 bif decide ((ag : Int) > 1100) then (
 R (.bool false) a0) else (
 ∃ (aw : Int), a0.cell? ((blk w.heap.size).add 2) = some (.int .u64 aw) ∧
 ∃ (am : Int), a0.cell? ((blk w.heap.size).add 1) = some (.int .i64 am) ∧
 R (.bool ((aw == 0) == (am == 0))) a0))))) else (
 ∃ (ap : Int), az.cell? ((blk w.heap.size).add 5) = some (.int .i64 ap) ∧
 Calls Try.prog 63 #[.int .i64 ap, .int .i64 (-1), .int .i64 20] az fun c0 bm => ∃ (ab : Bool), c0 = .returned (.bool ab) ∧
 bif !ab then (
 R (.bool false) bm) else (
 ∃ (bl : Int) (bh : Int), cellsAt bm ((blk w.heap.size).add 3) [.int .i64 bl, .int .i64 bh] 0 ∧
 Calls Try.prog 64 #[.agg #[.int .i64 bl, .int .i64 bh]] bm fun bs a1 => ∃ (a8 : Bool), bs = .returned (.bool a8) ∧
 bif !a8 then (
 bif !a8 then (
 R (.bool false) a1) else (
 ∃ (b0 : Int), a1.cell? ((blk w.heap.size).add 2) = some (.int .u64 b0) ∧
 ∃ (aj : Int), a1.cell? ((blk w.heap.size).add 1) = some (.int .i64 aj) ∧
 R (.bool ((b0 == 0) == (aj == 0))) a1)) else (
 ∃ (bw : Int), a1.cell? (((blk w.heap.size).add 3).add 1) = some (.int .i64 bw) ∧
 ∃ (a6 : Int), a1.cell? ((blk w.heap.size).add 0) = some (.int .i64 a6) ∧
 bif bw != a6 then (
 bif bw != a6 then (
 R (.bool false) a1) else (
 ∃ (ay : Int), a1.cell? ((blk w.heap.size).add 2) = some (.int .u64 ay) ∧
 ∃ (ah : Int), a1.cell? ((blk w.heap.size).add 1) = some (.int .i64 ah) ∧
 R (.bool ((ay == 0) == (ah == 0))) a1)) else (
 ∃ (b9 : Option Addr) (ai : Nat) (ba : Nat), a1.cell? ((blk w.heap.size).add 6) = some (.slice b9 ai ba) ∧
 bif decide ((ai : Int) > 1100) then (
 R (.bool false) a1) else (
 ∃ (b2 : Int), a1.cell? ((blk w.heap.size).add 2) = some (.int .u64 b2) ∧
 ∃ (ae : Int), a1.cell? ((blk w.heap.size).add 1) = some (.int .i64 ae) ∧
 R (.bool ((b2 == 0) == (ae == 0))) a1))))))

theorem entry_Right.eq (eWriter1 : Int) (eIndex2 : Int) (ePrev3 : Int) (eAtT4 : Int) (eAtW5 : Int) (eEpoch6 : Int) (eBody7a : Option Addr) (eBody7n : Nat) (eBody7c : Nat) (eSig8 : Int) (R : Value → World → Prop) (w : World) : mfunc Try.prog [] 34 [.agg #[.int .i64 eWriter1, .int .i64 eIndex2, .int .u64 ePrev3, .int .i64 eAtT4, .int .i64 eAtW5, .int .i64 eEpoch6, .slice eBody7a eBody7n eBody7c, .int .u64 eSig8]] R w = entry_Right.M eWriter1 eIndex2 ePrev3 eAtT4 eAtW5 eEpoch6 eBody7a eBody7n eBody7c eSig8 R w := by kernel_rfl
theorem entry_Right.ok (a0 : Int) (a4 : Int) (a6 : Int) (a7 : Int) (a8 : Int) (a1 : Int) (a3 : Option Addr) (a2 : Nat) (a5 : Nat) (a9 : Int) {R : Value → World → Prop} {w : World} (h : entry_Right.M a0 a4 a6 a7 a8 a1 a3 a2 a5 a9 R w) : Calls Try.prog 34 #[.agg #[.int .i64 a0, .int .i64 a4, .int .u64 a6, .int .i64 a7, .int .i64 a8, .int .i64 a1, .slice a3 a2 a5, .int .u64 a9]] w fun e w' => ∃ v, e = .returned v ∧ R v w' :=
  mfunc_ok follows (H := []) (args := [.agg #[.int .i64 a0, .int .i64 a4, .int .u64 a6, .int .i64 a7, .int .i64 a8, .int .i64 a1, .slice a3 a2 a5, .int .u64 a9]]) (by rw [entry_Right.eq]; exact h)

def entry_Right.N (a0 : Int) (a2 : Int) (a7 : Int) (a6 : Int) (a5 : Int) (a3 : Int) (ab : Option Addr) (a4 : Nat) (ac : Nat) (ad : Int) (R : Value → World → Prop) (w : World) : Prop :=
 ((entry_within.F a0 0 8) = false →
 ∀ (a9 : World), Ext no w a9 →
 R (.bool false) a9) ∧
 ((entry_within.F a0 0 8) = true →
 ((entry_within.F a2 0 200) = false →
 ∀ (aa : World), Ext no w aa →
 R (.bool false) aa) ∧
 ((entry_within.F a2 0 200) = true →
 ((entry_within.F a3 (-1) 20) = false →
 ∀ (a8 : World), Ext no w a8 →
 R (.bool false) a8) ∧
 ((entry_within.F a3 (-1) 20) = true →
 ((stamp_Right.F a6 a5) = false →
 ∀ (a1 : World), Ext no w a1 →
 R (.bool false) a1) ∧
 ((stamp_Right.F a6 a5) = true →
 (a5 ≠ a0 →
 ∀ (a1 : World), Ext no w a1 →
 R (.bool false) a1) ∧
 (a5 = a0 →
 ((a4 : Int) > 1100 →
 ∀ (a1 : World), Ext no w a1 →
 R (.bool false) a1) ∧
 ((a4 : Int) ≤ 1100 →
 ∀ (a1 : World), Ext no w a1 →
 R (.bool ((a7 == 0) == (a2 == 0))) a1))))))

theorem entry_Right.up (a0 : Int) (a1 : Int) (a9 : Int) (a8 : Int) (a3 : Int) (a2 : Int) (a6 : Option Addr) (a5 : Nat) (a4 : Nat) (ab : Int) {R : Value → World → Prop} {w : World} (h : entry_Right.N a0 a1 a9 a8 a3 a2 a6 a5 a4 ab R w) : entry_Right.M a0 a1 a9 a8 a3 a2 a6 a5 a4 ab R w := by
  unfold entry_Right.M
  unfold entry_Right.N at h
  refine thenW_in fun an e9 => ?_
  have a7 := Blk.of_new e9
  have am := ((Ext.refl no w)).size
  have al := (Ext.refl no w).x_alloc e9
  refine ⟨a0, a7.celli 0 rfl rfl, ?_⟩
  refine (entry_within.pure a0 0 8).mono fun ee ww10 ⟨he, hxx⟩ => ⟨(entry_within.F a0 0 8), he, ?_⟩
  have ad := al.trans hxx
  have a7 := a7.ext hxx id
  refine bif_of (fun ah => ?_) (fun ah => ?_)
  · have h := h.1 (not_t ah)
    refine bif_tt ah ?_
    have h := h ww10 ad
    exact h
  · have h := h.2 (not_f ah)
    refine ⟨a1, a7.celli 1 rfl rfl, ?_⟩
    refine (entry_within.pure a1 0 200).mono fun ee ww13 ⟨he, hxx⟩ => ⟨(entry_within.F a1 0 200), he, ?_⟩
    have ac := ad.trans hxx
    have a7 := a7.ext hxx id
    refine bif_of (fun af => ?_) (fun af => ?_)
    · have h := h.1 (not_t af)
      refine bif_tt af ?_
      have h := h ww13 ac
      exact h
    · have h := h.2 (not_f af)
      refine ⟨a2, a7.celli 5 rfl rfl, ?_⟩
      refine (entry_within.pure a2 (-1) 20).mono fun ee ww16 ⟨he, hxx⟩ => ⟨(entry_within.F a2 (-1) 20), he, ?_⟩
      have ae := ac.trans hxx
      have a7 := a7.ext hxx id
      refine bif_of (fun aj => ?_) (fun aj => ?_)
      · have h := h.1 (not_t aj)
        have h := h ww16 ae
        exact h
      · have h := h.2 (not_f aj)
        refine ⟨a8, a3, ⟨a7.celli 3 rfl rfl, a7.celli 4 rfl rfl, trivial⟩, ?_⟩
        refine (stamp_Right.pure a8 a3).mono fun ee ww19 ⟨he, hxx⟩ => ⟨(stamp_Right.F a8 a3), he, ?_⟩
        have aa := ae.trans hxx
        have a7 := a7.ext hxx id
        refine bif_of (fun ai => ?_) (fun ai => ?_)
        · have h := h.1 (not_t ai)
          refine bif_tt ai ?_
          have h := h ww19 aa
          exact h
        · have h := h.2 (not_f ai)
          refine ⟨a3, a7.celli 4 rfl rfl, ?_⟩
          refine ⟨a0, a7.celli 0 rfl rfl, ?_⟩
          refine bif_of (fun ag => ?_) (fun ag => ?_)
          · have h := h.1 (bne_t ag)
            refine bif_tt ag ?_
            have h := h ww19 aa
            exact h
          · have h := h.2 (bne_f ag)
            refine ⟨a6, a5, a4, a7.celli 6 rfl rfl, ?_⟩
            refine bif_of (fun ak => ?_) (fun ak => ?_)
            · have h := h.1 (of_decide_eq_true ak)
              have h := h ww19 aa
              exact h
            · have h := h.2 (Int.not_lt.1 (of_decide_eq_false ak))
              refine ⟨a9, a7.celli 2 rfl rfl, ?_⟩
              refine ⟨a1, a7.celli 1 rfl rfl, ?_⟩
              have h := h ww19 aa
              exact h

theorem entry_Right.go (a0 : Int) (a4 : Int) (a6 : Int) (a7 : Int) (a8 : Int) (a1 : Int) (a3 : Option Addr) (a2 : Nat) (a5 : Nat) (a9 : Int) {R : Value → World → Prop} {w : World} (h : entry_Right.N a0 a4 a6 a7 a8 a1 a3 a2 a5 a9 R w) : Calls Try.prog 34 #[.agg #[.int .i64 a0, .int .i64 a4, .int .u64 a6, .int .i64 a7, .int .i64 a8, .int .i64 a1, .slice a3 a2 a5, .int .u64 a9]] w fun e w' => ∃ v, e = .returned v ∧ R v w' := entry_Right.ok a0 a4 a6 a7 a8 a1 a3 a2 a5 a9 (entry_Right.up a0 a4 a6 a7 a8 a1 a3 a2 a5 a9 h)
theorem entry_Right.run (a0 : Int) (a4 : Int) (a6 : Int) (a7 : Int) (a8 : Int) (a1 : Int) (a3 : Option Addr) (a2 : Nat) (a5 : Nat) (a9 : Int) {V : Value} {Q : World → Prop} {w : World} (h : entry_Right.N a0 a4 a6 a7 a8 a1 a3 a2 a5 a9 (fun v w' => v = V ∧ Q w') w) : Calls Try.prog 34 #[.agg #[.int .i64 a0, .int .i64 a4, .int .u64 a6, .int .i64 a7, .int .i64 a8, .int .i64 a1, .slice a3 a2 a5, .int .u64 a9]] w (Ret V Q) := (entry_Right.go a0 a4 a6 a7 a8 a1 a3 a2 a5 a9 h).mono fun e w' ⟨v, he, hv, hq⟩ => ⟨by rw [he, hv], hq⟩

def entry_Right.F (a0 : Int) (a1 : Int) (a5 : Int) (a6 : Int) (a4 : Int) (a2 : Int) (a7 : Option Addr) (a3 : Nat) (a8 : Nat) (a9 : Int) : Bool :=
  if (entry_within.F a0 0 8) = false then
    false
  else
    if (entry_within.F a1 0 200) = false then
      false
    else
      if (entry_within.F a2 (-1) 20) = false then
        false
      else
        if (stamp_Right.F a6 a4) = false then
          false
        else
          if a4 ≠ a0 then
            false
          else
            if (a3 : Int) > 1100 then
              false
            else
              ((a5 == 0) == (a1 == 0))
theorem entry_Right.pure (a0 : Int) (a4 : Int) (a6 : Int) (a7 : Int) (a8 : Int) (a1 : Int) (a3 : Option Addr) (a2 : Nat) (a5 : Nat) (a9 : Int) {w : World} : Calls Try.prog 34 #[.agg #[.int .i64 a0, .int .i64 a4, .int .u64 a6, .int .i64 a7, .int .i64 a8, .int .i64 a1, .slice a3 a2 a5, .int .u64 a9]] w (Ret (.bool (entry_Right.F a0 a4 a6 a7 a8 a1 a3 a2 a5 a9)) fun w' => Ext no w w') := by
  refine entry_Right.run a0 a4 a6 a7 a8 a1 a3 a2 a5 a9 ?_
  unfold entry_Right.N
  refine ⟨fun c0 => ?_, fun c0 => ?_⟩
  · intro w' hx; exact ⟨by unfold entry_Right.F; rw [if_pos c0], hx⟩
  · refine ⟨fun c1 => ?_, fun c1 => ?_⟩
    · intro w' hx; exact ⟨by unfold entry_Right.F; rw [if_neg (by rw [c0]; decide), if_pos c1], hx⟩
    · refine ⟨fun c2 => ?_, fun c2 => ?_⟩
      · intro w' hx; exact ⟨by unfold entry_Right.F; rw [if_neg (by rw [c0]; decide), if_neg (by rw [c1]; decide), if_pos c2], hx⟩
      · refine ⟨fun c3 => ?_, fun c3 => ?_⟩
        · intro w' hx; exact ⟨by unfold entry_Right.F; rw [if_neg (by rw [c0]; decide), if_neg (by rw [c1]; decide), if_neg (by rw [c2]; decide), if_pos c3], hx⟩
        · refine ⟨fun c4 => ?_, fun c4 => ?_⟩
          · intro w' hx; exact ⟨by unfold entry_Right.F; rw [if_neg (by rw [c0]; decide), if_neg (by rw [c1]; decide), if_neg (by rw [c2]; decide), if_neg (by rw [c3]; decide), if_pos c4], hx⟩
          · refine ⟨fun c5 => ?_, fun c5 => ?_⟩
            · intro w' hx; exact ⟨by unfold entry_Right.F; rw [if_neg (by rw [c0]; decide), if_neg (by rw [c1]; decide), if_neg (by rw [c2]; decide), if_neg (by rw [c3]; decide), if_neg (not_not_intro c4), if_pos c5], hx⟩
            · intro w' hx; exact ⟨by unfold entry_Right.F; rw [if_neg (by rw [c0]; decide), if_neg (by rw [c1]; decide), if_neg (by rw [c2]; decide), if_neg (by rw [c3]; decide), if_neg (not_not_intro c4), if_neg (by omega)], hx⟩

/-- cachetteref04.Right -/
def cachetteref04_Right.M (a2 : Int) (a1 : Int) (R : Value → World → Prop) (w : World) : Prop :=
 thenW (w.alloc (.cells #[.int .i64 a2, .int .i64 a1] 27)) fun a0 =>
 ∃ (T4 : Int), a0.cell? ((blk w.heap.size).add 0) = some (.int .i64 T4) ∧
 bif decide (T4 ≥ 1) then (
 ∃ (T5 : Int), a0.cell? ((blk w.heap.size).add 0) = some (.int .i64 T5) ∧
 bif decide (T5 ≤ 1099511627776) then (
 ∃ (W6 : Int), a0.cell? ((blk w.heap.size).add 1) = some (.int .i64 W6) ∧
 bif decide (W6 ≥ 0) then (
 ∃ (W7 : Int), a0.cell? ((blk w.heap.size).add 1) = some (.int .i64 W7) ∧
 R (.bool (decide (W7 < 8))) a0) else (
 R (.bool false) a0)) else (
 R (.bool false) a0)) else (
 R (.bool false) a0)

theorem cachetteref04_Right.eq (sT1 : Int) (sW2 : Int) (R : Value → World → Prop) (w : World) : mfunc Try.prog [] 85 [.agg #[.int .i64 sT1, .int .i64 sW2]] R w = cachetteref04_Right.M sT1 sW2 R w := by kernel_rfl
theorem cachetteref04_Right.ok (a1 : Int) (a0 : Int) {R : Value → World → Prop} {w : World} (h : cachetteref04_Right.M a1 a0 R w) : Calls Try.prog 85 #[.agg #[.int .i64 a1, .int .i64 a0]] w fun e w' => ∃ v, e = .returned v ∧ R v w' :=
  mfunc_ok follows (H := []) (args := [.agg #[.int .i64 a1, .int .i64 a0]]) (by rw [cachetteref04_Right.eq]; exact h)

def cachetteref04_Right.N (a1 : Int) (a2 : Int) (R : Value → World → Prop) (w : World) : Prop :=
 (a1 ≥ 1 →
 (a1 ≤ 1099511627776 →
 (a2 ≥ 0 →
 ∀ (a0 : World), Ext no w a0 →
 R (.bool (decide (a2 < 8))) a0) ∧
 (a2 < 0 →
 ∀ (a0 : World), Ext no w a0 →
 R (.bool false) a0)) ∧
 ((1099511627776 : Int) < a1 →
 ∀ (a0 : World), Ext no w a0 →
 R (.bool false) a0)) ∧
 (a1 < 1 →
 ∀ (a0 : World), Ext no w a0 →
 R (.bool false) a0)

theorem cachetteref04_Right.up (a3 : Int) (a1 : Int) {R : Value → World → Prop} {w : World} (h : cachetteref04_Right.N a3 a1 R w) : cachetteref04_Right.M a3 a1 R w := by
  unfold cachetteref04_Right.M
  unfold cachetteref04_Right.N at h
  refine thenW_in fun a0 e3 => ?_
  have a2 := Blk.of_new e3
  have a5 := ((Ext.refl no w)).size
  have a4 := (Ext.refl no w).x_alloc e3
  refine ⟨a3, a2.celli 0 rfl rfl, ?_⟩
  refine bif_of (fun c4 => ?_) (fun c4 => ?_)
  · have h := h.1 (of_decide_eq_true c4)
    refine ⟨a3, a2.celli 0 rfl rfl, ?_⟩
    refine bif_of (fun c5 => ?_) (fun c5 => ?_)
    · have h := h.1 (of_decide_eq_true c5)
      refine ⟨a1, a2.celli 1 rfl rfl, ?_⟩
      refine bif_of (fun c6 => ?_) (fun c6 => ?_)
      · have h := h.1 (of_decide_eq_true c6)
        refine ⟨a1, a2.celli 1 rfl rfl, ?_⟩
        have h := h a0 a4
        exact h
      · have h := h.2 (Int.not_le.1 (of_decide_eq_false c6))
        have h := h a0 a4
        exact h
    · have h := h.2 (Int.not_le.1 (of_decide_eq_false c5))
      have h := h a0 a4
      exact h
  · have h := h.2 (Int.not_le.1 (of_decide_eq_false c4))
    have h := h a0 a4
    exact h

theorem cachetteref04_Right.go (a1 : Int) (a0 : Int) {R : Value → World → Prop} {w : World} (h : cachetteref04_Right.N a1 a0 R w) : Calls Try.prog 85 #[.agg #[.int .i64 a1, .int .i64 a0]] w fun e w' => ∃ v, e = .returned v ∧ R v w' := cachetteref04_Right.ok a1 a0 (cachetteref04_Right.up a1 a0 h)
theorem cachetteref04_Right.run (a1 : Int) (a0 : Int) {V : Value} {Q : World → Prop} {w : World} (h : cachetteref04_Right.N a1 a0 (fun v w' => v = V ∧ Q w') w) : Calls Try.prog 85 #[.agg #[.int .i64 a1, .int .i64 a0]] w (Ret V Q) := (cachetteref04_Right.go a1 a0 h).mono fun e w' ⟨v, he, hv, hq⟩ => ⟨by rw [he, hv], hq⟩

def cachetteref04_Right.F (a1 : Int) (a0 : Int) : Bool :=
  if a1 ≥ 1 then
    if a1 ≤ 1099511627776 then
      if a0 ≥ 0 then
        (decide (a0 < 8))
      else
        false
    else
      false
  else
    false
theorem cachetteref04_Right.pure (a1 : Int) (a0 : Int) {w : World} : Calls Try.prog 85 #[.agg #[.int .i64 a1, .int .i64 a0]] w (Ret (.bool (cachetteref04_Right.F a1 a0)) fun w' => Ext no w w') := by
  refine cachetteref04_Right.run a1 a0 ?_
  unfold cachetteref04_Right.N
  refine ⟨fun c0 => ?_, fun c0 => ?_⟩
  · refine ⟨fun c1 => ?_, fun c1 => ?_⟩
    · refine ⟨fun c2 => ?_, fun c2 => ?_⟩
      · intro w' hx; exact ⟨by unfold cachetteref04_Right.F; rw [if_pos c0, if_pos c1, if_pos c2], hx⟩
      · intro w' hx; exact ⟨by unfold cachetteref04_Right.F; rw [if_pos c0, if_pos c1, if_neg (by omega)], hx⟩
    · intro w' hx; exact ⟨by unfold cachetteref04_Right.F; rw [if_pos c0, if_neg (by omega)], hx⟩
  · intro w' hx; exact ⟨by unfold cachetteref04_Right.F; rw [if_neg (by omega)], hx⟩

/-- cachetteref06.Right -/
def cachetteref06_Right.M (ad : Int) (ak : Int) (an : Int) (ao : Int) (ap : Int) (ai : Int) (aj : Option Addr) (ah : Nat) (ag : Nat) (aq : Int) (R : Value → World → Prop) (w : World) : Prop :=
 thenW (w.alloc (.cells #[.int .i64 ad, .int .i64 ak, .int .u64 an, .int .i64 ao, .int .i64 ap, .int .i64 ai, .slice aj ah ag, .int .u64 aq] 29)) fun ab =>
 ∃ (a3 : Int), ab.cell? ((blk w.heap.size).add 0) = some (.int .i64 a3) ∧
 bif decide (a3 ≥ 0) then (
 ∃ (a1 : Int), ab.cell? ((blk w.heap.size).add 0) = some (.int .i64 a1) ∧
 bif decide (a1 < 8) then (
 ∃ (aa : Int), ab.cell? ((blk w.heap.size).add 1) = some (.int .i64 aa) ∧
 bif decide (aa ≥ 0) then (
 ∃ (a7 : Int), ab.cell? ((blk w.heap.size).add 1) = some (.int .i64 a7) ∧
 bif decide (a7 < 200) then (
 ∃ (ac : Int), ab.cell? ((blk w.heap.size).add 2) = some (.int .u64 ac) ∧
 ∃ (a6 : Int), ab.cell? ((blk w.heap.size).add 1) = some (.int .i64 a6) ∧
 bif (ac == 0) == (a6 == 0) then (
 ∃ (am : Int) (al : Int), cellsAt ab ((blk w.heap.size).add 3) [.int .i64 am, .int .i64 al] 0 ∧
 Calls Try.prog 85 #[.agg #[.int .i64 am, .int .i64 al]] ab fun ar a0 => ∃ (a5 : Bool), ar = .returned (.bool a5) ∧
 bif a5 then (
 ∃ (au : Int), a0.cell? (((blk w.heap.size).add 3).add 1) = some (.int .i64 au) ∧
 ∃ (a2 : Int), a0.cell? ((blk w.heap.size).add 0) = some (.int .i64 a2) ∧
 bif au == a2 then (
 ∃ (a4 : Int), a0.cell? ((blk w.heap.size).add 5) = some (.int .i64 a4) ∧
 bif decide (a4 ≥ (-1)) then (
 ∃ (a8 : Int), a0.cell? ((blk w.heap.size).add 5) = some (.int .i64 a8) ∧
 bif decide (a8 < 20) then (
 ∃ (ae : Option Addr) (a9 : Nat) (af : Nat), a0.cell? ((blk w.heap.size).add 6) = some (.slice ae a9 af) ∧
 R (.bool (decide ((a9 : Int) ≤ 1100))) a0) else (
 R (.bool false) a0)) else (
 R (.bool false) a0)) else (
 R (.bool false) a0)) else (
 R (.bool false) a0)) else (
 R (.bool false) ab)) else (
 R (.bool false) ab)) else (
 R (.bool false) ab)) else (
 R (.bool false) ab)) else (
 R (.bool false) ab)

theorem cachetteref06_Right.eq (eWriter1 : Int) (eIndex2 : Int) (ePrev3 : Int) (eAtT4 : Int) (eAtW5 : Int) (eEpoch6 : Int) (eBody7a : Option Addr) (eBody7n : Nat) (eBody7c : Nat) (eSig8 : Int) (R : Value → World → Prop) (w : World) : mfunc Try.prog [] 76 [.agg #[.int .i64 eWriter1, .int .i64 eIndex2, .int .u64 ePrev3, .int .i64 eAtT4, .int .i64 eAtW5, .int .i64 eEpoch6, .slice eBody7a eBody7n eBody7c, .int .u64 eSig8]] R w = cachetteref06_Right.M eWriter1 eIndex2 ePrev3 eAtT4 eAtW5 eEpoch6 eBody7a eBody7n eBody7c eSig8 R w := by kernel_rfl
theorem cachetteref06_Right.ok (a0 : Int) (a4 : Int) (a6 : Int) (a7 : Int) (a8 : Int) (a1 : Int) (a3 : Option Addr) (a2 : Nat) (a5 : Nat) (a9 : Int) {R : Value → World → Prop} {w : World} (h : cachetteref06_Right.M a0 a4 a6 a7 a8 a1 a3 a2 a5 a9 R w) : Calls Try.prog 76 #[.agg #[.int .i64 a0, .int .i64 a4, .int .u64 a6, .int .i64 a7, .int .i64 a8, .int .i64 a1, .slice a3 a2 a5, .int .u64 a9]] w fun e w' => ∃ v, e = .returned v ∧ R v w' :=
  mfunc_ok follows (H := []) (args := [.agg #[.int .i64 a0, .int .i64 a4, .int .u64 a6, .int .i64 a7, .int .i64 a8, .int .i64 a1, .slice a3 a2 a5, .int .u64 a9]]) (by rw [cachetteref06_Right.eq]; exact h)

def cachetteref06_Right.N (a0 : Int) (a1 : Int) (a6 : Int) (a8 : Int) (a4 : Int) (a3 : Int) (a9 : Option Addr) (a7 : Nat) (aa : Nat) (ab : Int) (R : Value → World → Prop) (w : World) : Prop :=
 (a0 ≥ 0 →
 (a0 < 8 →
 (a1 ≥ 0 →
 (a1 < 200 →
 ((a6 == 0) = (a1 == 0) →
 ((cachetteref04_Right.F a8 a4) = true →
 (a4 = a0 →
 (a3 ≥ (-1) →
 (a3 < 20 →
 ∀ (a2 : World), Ext no w a2 →
 R (.bool (decide ((a7 : Int) ≤ 1100))) a2) ∧
 ((20 : Int) ≤ a3 →
 ∀ (a2 : World), Ext no w a2 →
 R (.bool false) a2)) ∧
 (a3 < (-1) →
 ∀ (a2 : World), Ext no w a2 →
 R (.bool false) a2)) ∧
 (a4 ≠ a0 →
 ∀ (a2 : World), Ext no w a2 →
 R (.bool false) a2)) ∧
 ((cachetteref04_Right.F a8 a4) = false →
 ∀ (a2 : World), Ext no w a2 →
 R (.bool false) a2)) ∧
 ((a6 == 0) ≠ (a1 == 0) →
 ∀ (a5 : World), Ext no w a5 →
 R (.bool false) a5)) ∧
 ((200 : Int) ≤ a1 →
 ∀ (a5 : World), Ext no w a5 →
 R (.bool false) a5)) ∧
 (a1 < 0 →
 ∀ (a5 : World), Ext no w a5 →
 R (.bool false) a5)) ∧
 ((8 : Int) ≤ a0 →
 ∀ (a5 : World), Ext no w a5 →
 R (.bool false) a5)) ∧
 (a0 < 0 →
 ∀ (a5 : World), Ext no w a5 →
 R (.bool false) a5)

theorem cachetteref06_Right.up (a0 : Int) (a1 : Int) (a9 : Int) (a7 : Int) (a3 : Int) (a2 : Int) (a6 : Option Addr) (a5 : Nat) (a4 : Nat) (ab : Int) {R : Value → World → Prop} {w : World} (h : cachetteref06_Right.N a0 a1 a9 a7 a3 a2 a6 a5 a4 ab R w) : cachetteref06_Right.M a0 a1 a9 a7 a3 a2 a6 a5 a4 ab R w := by
  unfold cachetteref06_Right.M
  unfold cachetteref06_Right.N at h
  refine thenW_in fun ad e9 => ?_
  have a8 := Blk.of_new e9
  have an := ((Ext.refl no w)).size
  have ac := (Ext.refl no w).x_alloc e9
  refine ⟨a0, a8.celli 0 rfl rfl, ?_⟩
  refine bif_of (fun ak => ?_) (fun ak => ?_)
  · have h := h.1 (of_decide_eq_true ak)
    refine ⟨a0, a8.celli 0 rfl rfl, ?_⟩
    refine bif_of (fun ai => ?_) (fun ai => ?_)
    · have h := h.1 (of_decide_eq_true ai)
      refine ⟨a1, a8.celli 1 rfl rfl, ?_⟩
      refine bif_of (fun af => ?_) (fun af => ?_)
      · have h := h.1 (of_decide_eq_true af)
        refine ⟨a1, a8.celli 1 rfl rfl, ?_⟩
        refine bif_of (fun am => ?_) (fun am => ?_)
        · have h := h.1 (of_decide_eq_true am)
          refine ⟨a9, a8.celli 2 rfl rfl, ?_⟩
          refine ⟨a1, a8.celli 1 rfl rfl, ?_⟩
          refine bif_of (fun ae => ?_) (fun ae => ?_)
          · have h := h.1 (bbeq_t ae)
            refine ⟨a7, a3, ⟨a8.celli 3 rfl rfl, a8.celli 4 rfl rfl, trivial⟩, ?_⟩
            refine (cachetteref04_Right.pure a7 a3).mono fun ee ww15 ⟨he, hxx⟩ => ⟨(cachetteref04_Right.F a7 a3), he, ?_⟩
            have aa := ac.trans hxx
            have a8 := a8.ext hxx id
            refine bif_of (fun ag => ?_) (fun ag => ?_)
            · have h := h.1 ag
              refine ⟨a3, a8.celli 4 rfl rfl, ?_⟩
              refine ⟨a0, a8.celli 0 rfl rfl, ?_⟩
              refine bif_of (fun al => ?_) (fun al => ?_)
              · have h := h.1 (beq_t al)
                refine ⟨a2, a8.celli 5 rfl rfl, ?_⟩
                refine bif_of (fun ah => ?_) (fun ah => ?_)
                · have h := h.1 (of_decide_eq_true ah)
                  refine ⟨a2, a8.celli 5 rfl rfl, ?_⟩
                  refine bif_of (fun aj => ?_) (fun aj => ?_)
                  · have h := h.1 (of_decide_eq_true aj)
                    refine ⟨a6, a5, a4, a8.celli 6 rfl rfl, ?_⟩
                    have h := h ww15 aa
                    exact h
                  · have h := h.2 (Int.not_lt.1 (of_decide_eq_false aj))
                    have h := h ww15 aa
                    exact h
                · have h := h.2 (Int.not_le.1 (of_decide_eq_false ah))
                  have h := h ww15 aa
                  exact h
              · have h := h.2 (beq_f al)
                have h := h ww15 aa
                exact h
            · have h := h.2 ag
              have h := h ww15 aa
              exact h
          · have h := h.2 (bbeq_f ae)
            have h := h ad ac
            exact h
        · have h := h.2 (Int.not_lt.1 (of_decide_eq_false am))
          have h := h ad ac
          exact h
      · have h := h.2 (Int.not_le.1 (of_decide_eq_false af))
        have h := h ad ac
        exact h
    · have h := h.2 (Int.not_lt.1 (of_decide_eq_false ai))
      have h := h ad ac
      exact h
  · have h := h.2 (Int.not_le.1 (of_decide_eq_false ak))
    have h := h ad ac
    exact h

theorem cachetteref06_Right.go (a0 : Int) (a4 : Int) (a6 : Int) (a7 : Int) (a8 : Int) (a1 : Int) (a3 : Option Addr) (a2 : Nat) (a5 : Nat) (a9 : Int) {R : Value → World → Prop} {w : World} (h : cachetteref06_Right.N a0 a4 a6 a7 a8 a1 a3 a2 a5 a9 R w) : Calls Try.prog 76 #[.agg #[.int .i64 a0, .int .i64 a4, .int .u64 a6, .int .i64 a7, .int .i64 a8, .int .i64 a1, .slice a3 a2 a5, .int .u64 a9]] w fun e w' => ∃ v, e = .returned v ∧ R v w' := cachetteref06_Right.ok a0 a4 a6 a7 a8 a1 a3 a2 a5 a9 (cachetteref06_Right.up a0 a4 a6 a7 a8 a1 a3 a2 a5 a9 h)
theorem cachetteref06_Right.run (a0 : Int) (a4 : Int) (a6 : Int) (a7 : Int) (a8 : Int) (a1 : Int) (a3 : Option Addr) (a2 : Nat) (a5 : Nat) (a9 : Int) {V : Value} {Q : World → Prop} {w : World} (h : cachetteref06_Right.N a0 a4 a6 a7 a8 a1 a3 a2 a5 a9 (fun v w' => v = V ∧ Q w') w) : Calls Try.prog 76 #[.agg #[.int .i64 a0, .int .i64 a4, .int .u64 a6, .int .i64 a7, .int .i64 a8, .int .i64 a1, .slice a3 a2 a5, .int .u64 a9]] w (Ret V Q) := (cachetteref06_Right.go a0 a4 a6 a7 a8 a1 a3 a2 a5 a9 h).mono fun e w' ⟨v, he, hv, hq⟩ => ⟨by rw [he, hv], hq⟩

def cachetteref06_Right.F (a0 : Int) (a1 : Int) (a5 : Int) (a6 : Int) (a4 : Int) (a2 : Int) (a7 : Option Addr) (a3 : Nat) (a8 : Nat) (a9 : Int) : Bool :=
  if a0 ≥ 0 then
    if a0 < 8 then
      if a1 ≥ 0 then
        if a1 < 200 then
          if (a5 == 0) = (a1 == 0) then
            if (cachetteref04_Right.F a6 a4) = true then
              if a4 = a0 then
                if a2 ≥ (-1) then
                  if a2 < 20 then
                    (decide ((a3 : Int) ≤ 1100))
                  else
                    false
                else
                  false
              else
                false
            else
              false
          else
            false
        else
          false
      else
        false
    else
      false
  else
    false
theorem cachetteref06_Right.pure (a0 : Int) (a4 : Int) (a6 : Int) (a7 : Int) (a8 : Int) (a1 : Int) (a3 : Option Addr) (a2 : Nat) (a5 : Nat) (a9 : Int) {w : World} : Calls Try.prog 76 #[.agg #[.int .i64 a0, .int .i64 a4, .int .u64 a6, .int .i64 a7, .int .i64 a8, .int .i64 a1, .slice a3 a2 a5, .int .u64 a9]] w (Ret (.bool (cachetteref06_Right.F a0 a4 a6 a7 a8 a1 a3 a2 a5 a9)) fun w' => Ext no w w') := by
  refine cachetteref06_Right.run a0 a4 a6 a7 a8 a1 a3 a2 a5 a9 ?_
  unfold cachetteref06_Right.N
  refine ⟨fun c0 => ?_, fun c0 => ?_⟩
  · refine ⟨fun c1 => ?_, fun c1 => ?_⟩
    · refine ⟨fun c2 => ?_, fun c2 => ?_⟩
      · refine ⟨fun c3 => ?_, fun c3 => ?_⟩
        · refine ⟨fun c4 => ?_, fun c4 => ?_⟩
          · refine ⟨fun c5 => ?_, fun c5 => ?_⟩
            · refine ⟨fun c6 => ?_, fun c6 => ?_⟩
              · refine ⟨fun c7 => ?_, fun c7 => ?_⟩
                · refine ⟨fun c8 => ?_, fun c8 => ?_⟩
                  · intro w' hx; exact ⟨by unfold cachetteref06_Right.F; rw [if_pos c0, if_pos c1, if_pos c2, if_pos c3, if_pos c4, if_pos c5, if_pos c6, if_pos c7, if_pos c8], hx⟩
                  · intro w' hx; exact ⟨by unfold cachetteref06_Right.F; rw [if_pos c0, if_pos c1, if_pos c2, if_pos c3, if_pos c4, if_pos c5, if_pos c6, if_pos c7, if_neg (by omega)], hx⟩
                · intro w' hx; exact ⟨by unfold cachetteref06_Right.F; rw [if_pos c0, if_pos c1, if_pos c2, if_pos c3, if_pos c4, if_pos c5, if_pos c6, if_neg (by omega)], hx⟩
              · intro w' hx; exact ⟨by unfold cachetteref06_Right.F; rw [if_pos c0, if_pos c1, if_pos c2, if_pos c3, if_pos c4, if_pos c5, if_neg c6], hx⟩
            · intro w' hx; exact ⟨by unfold cachetteref06_Right.F; rw [if_pos c0, if_pos c1, if_pos c2, if_pos c3, if_pos c4, if_neg (by rw [c5]; decide)], hx⟩
          · intro w' hx; exact ⟨by unfold cachetteref06_Right.F; rw [if_pos c0, if_pos c1, if_pos c2, if_pos c3, if_neg c4], hx⟩
        · intro w' hx; exact ⟨by unfold cachetteref06_Right.F; rw [if_pos c0, if_pos c1, if_pos c2, if_neg (by omega)], hx⟩
      · intro w' hx; exact ⟨by unfold cachetteref06_Right.F; rw [if_pos c0, if_pos c1, if_neg (by omega)], hx⟩
    · intro w' hx; exact ⟨by unfold cachetteref06_Right.F; rw [if_pos c0, if_neg (by omega)], hx⟩
  · intro w' hx; exact ⟨by unfold cachetteref06_Right.F; rw [if_neg (by omega)], hx⟩

/-- an entry. -/
structure Ent where
  w : Int
  i : Int
  pv : Int
  t : Int
  tw : Int
  ep : Int
  body : List UInt8
  sg : Int
deriving DecidableEq
def Ent.zero : Ent := ⟨0, 0, 0, 0, 0, 0, [], 0⟩
/-- its cells; where the bytes of its body lie. -/
def entC (e : Ent) (a : Option Addr) (c : Nat) : List Value := [.int .i64 e.w, .int .i64 e.i, .int .u64 e.pv, .int .i64 e.t, .int .i64 e.tw, .int .i64 e.ep, .slice a e.body.length c, .int .u64 e.sg]
def entV (e : Ent) (a : Option Addr) (c : Nat) : Value := .agg #[.int .i64 e.w, .int .i64 e.i, .int .u64 e.pv, .int .i64 e.t, .int .i64 e.tw, .int .i64 e.ep, .slice a e.body.length c, .int .u64 e.sg]
/-- numbers that are of their kinds. -/
structure Ent.fit (e : Ent) : Prop where
  pv0 : 0 ≤ e.pv
  pv1 : e.pv < 18446744073709551616
  sg0 : 0 ≤ e.sg
  sg1 : e.sg < 18446744073709551616
def entRight (e : Ent) : Bool := decide (0 ≤ e.w ∧ e.w < 8 ∧ 0 ≤ e.i ∧ e.i < 200 ∧ -1 ≤ e.ep ∧ e.ep < 20 ∧ 0 < e.t ∧ e.t ≤ 1099511627776 ∧ e.tw = e.w ∧ e.body.length ≤ 1100 ∧ (e.pv = 0 ↔ e.i = 0))
theorem beq_dec (x y : Int) : ((x == 0) == (y == 0)) = decide (x = 0 ↔ y = 0) := by
  rw [Bool.eq_iff_iff, decide_eq_true_eq, beq_iff_eq, Bool.eq_iff_iff, beq_iff_eq, beq_iff_eq]
theorem within_F (n a b : Int) : entry_within.F n a b = decide (a ≤ n ∧ n < b) := by
  unfold entry_within.F
  by_cases h : n ≥ a
  · rw [if_pos h, decide_eq_decide]; omega
  · rw [if_neg h, eq_comm, decide_eq_false_iff_not]; omega
theorem stampRight_F (t w : Int) : stamp_Right.F t w = decide (0 < t ∧ t ≤ 1099511627776 ∧ 0 ≤ w ∧ w < 8) := by
  unfold stamp_Right.F stamp_member.F
  by_cases h : t > 0
  · rw [if_pos h]
    by_cases h1 : t ≤ 1099511627776
    · rw [if_pos h1]
      by_cases h2 : w ≥ 0
      · rw [if_pos h2, decide_eq_decide]; omega
      · rw [if_neg h2, eq_comm, decide_eq_false_iff_not]; omega
    · rw [if_neg h1, eq_comm, decide_eq_false_iff_not]; omega
  · rw [if_neg h, eq_comm, decide_eq_false_iff_not]; omega
theorem refStamp_F (t w : Int) : cachetteref04_Right.F t w = decide (0 < t ∧ t ≤ 1099511627776 ∧ 0 ≤ w ∧ w < 8) := by
  unfold cachetteref04_Right.F
  by_cases h : t ≥ 1
  · rw [if_pos h]
    by_cases h1 : t ≤ 1099511627776
    · rw [if_pos h1]
      by_cases h2 : w ≥ 0
      · rw [if_pos h2, decide_eq_decide]; omega
      · rw [if_neg h2, eq_comm, decide_eq_false_iff_not]; omega
    · rw [if_neg h1, eq_comm, decide_eq_false_iff_not]; omega
  · rw [if_neg h, eq_comm, decide_eq_false_iff_not]; omega
theorem entRight_F (e : Ent) (a : Option Addr) (c : Nat) : entry_Right.F e.w e.i e.pv e.t e.tw e.ep a e.body.length c e.sg = entRight e := by
  unfold entry_Right.F entRight
  rw [beq_dec]
  simp only [within_F, stampRight_F, decide_eq_false_iff_not]
  rw [Bool.eq_iff_iff, decide_eq_true_eq]
  (repeat' split) <;> simp only [Bool.false_eq_true, decide_eq_true_eq, false_iff] <;> omega
theorem refRight_F (e : Ent) (a : Option Addr) (c : Nat) : cachetteref06_Right.F e.w e.i e.pv e.t e.tw e.ep a e.body.length c e.sg = entRight e := by
  unfold cachetteref06_Right.F entRight
  have h : ((e.pv == 0) = (e.i == 0)) ↔ (e.pv = 0 ↔ e.i = 0) := by rw [Bool.eq_iff_iff]; simp
  simp only [refStamp_F, h, decide_eq_true_eq, decide_eq_false_iff_not]
  rw [Bool.eq_iff_iff, decide_eq_true_eq]
  (repeat' split) <;> simp only [Bool.false_eq_true, decide_eq_true_eq, false_iff] <;> omega
def stampL (t w : Int) : List UInt8 := numL (zig t) ++ numL w.toNat
def textL (e : Ent) : List UInt8 := numL e.w.toNat ++ numL e.i.toNat ++ numL e.pv.toNat ++ stampL e.t e.tw ++ numL (zig e.ep) ++ (numL e.body.length ++ e.body)
theorem stampL_le (t w : Int) : (stampL t w).length ≤ 20 := by
  have h1 := W.numL_le (zig t); have h2 := W.numL_le w.toNat
  unfold stampL; rw [List.length_append]; omega
/-! ### the plain law -/
theorem entRight_iff (e : Ent) : entRight e = true ↔ (0 ≤ e.w ∧ e.w < 8 ∧ 0 ≤ e.i ∧ e.i < 200 ∧ -1 ≤ e.ep ∧ e.ep < 20 ∧ 0 < e.t ∧ e.t ≤ 1099511627776 ∧ e.tw = e.w ∧ e.body.length ≤ 1100 ∧ (e.pv = 0 ↔ e.i = 0)) := decide_eq_true_iff
end Go.Proofs.Ytfmdpjhkojbocaa

/- Entries: their bytes, and the entry of bytes (the program's). -/
set_option linter.unusedVariables false
set_option linter.unusedSimpArgs false
set_option maxRecDepth 20000
namespace Go.Proofs.Ytfmdpjhkojbocaa
open Go Go.Mx Go.Proofs
open W (OwnB GivesW numR countR doneR zig unzig intR)
/-- bytes.Equal -/
def bytes_Equal.M (a1 : Option Addr) (a4 : Nat) (a3 : Nat) (a0 : Option Addr) (a2 : Nat) (a5 : Nat) (R : Value → World → Prop) (w : World) : Prop :=
 ∃ (s3 : ByteArray), (convert 23 9 (.slice a1 a4 a3)).run Try.prog w = .ok (.string s3) w ∧
 ∃ (s4 : ByteArray), (convert 23 9 (.slice a0 a2 a5)).run Try.prog w = .ok (.string s4) w ∧
 R (.bool (s3.toList == s4.toList)) w

theorem bytes_Equal.eq (a1a : Option Addr) (a1n : Nat) (a1c : Nat) (b2a : Option Addr) (b2n : Nat) (b2c : Nat) (R : Value → World → Prop) (w : World) : mfunc Try.prog [] 69 [.slice a1a a1n a1c, .slice b2a b2n b2c] R w = bytes_Equal.M a1a a1n a1c b2a b2n b2c R w := by kernel_rfl
theorem bytes_Equal.ok (a1 : Option Addr) (a4 : Nat) (a3 : Nat) (a0 : Option Addr) (a2 : Nat) (a5 : Nat) {R : Value → World → Prop} {w : World} (h : bytes_Equal.M a1 a4 a3 a0 a2 a5 R w) : Calls Try.prog 69 #[.slice a1 a4 a3, .slice a0 a2 a5] w fun e w' => ∃ v, e = .returned v ∧ R v w' :=
  mfunc_ok follows (H := []) (args := [.slice a1 a4 a3, .slice a0 a2 a5]) (by rw [bytes_Equal.eq]; exact h)

def bytes_Equal.N (a1 : Option Addr) (a4 : Nat) (a3 : Nat) (a0 : Option Addr) (a2 : Nat) (a5 : Nat) (R : Value → World → Prop) (w : World) : Prop :=
 ∃ (s3 : ByteArray), (convert 23 9 (.slice a1 a4 a3)).run Try.prog w = .ok (.string s3) w ∧
 ∃ (s5 : ByteArray), (convert 23 9 (.slice a0 a2 a5)).run Try.prog w = .ok (.string s5) w ∧
 R (.bool (s3.toList == s5.toList)) w

theorem bytes_Equal.up (a1 : Option Addr) (a4 : Nat) (a3 : Nat) (a0 : Option Addr) (a2 : Nat) (a5 : Nat) {R : Value → World → Prop} {w : World} (h : bytes_Equal.N a1 a4 a3 a0 a2 a5 R w) : bytes_Equal.M a1 a4 a3 a0 a2 a5 R w := by
  unfold bytes_Equal.M
  unfold bytes_Equal.N at h
  obtain ⟨s3, a7, h⟩ := h
  refine ⟨s3, a7, ?_⟩
  obtain ⟨s5, a6, h⟩ := h
  refine ⟨s5, a6, ?_⟩
  exact h

theorem bytes_Equal.go (a1 : Option Addr) (a4 : Nat) (a3 : Nat) (a0 : Option Addr) (a2 : Nat) (a5 : Nat) {R : Value → World → Prop} {w : World} (h : bytes_Equal.N a1 a4 a3 a0 a2 a5 R w) : Calls Try.prog 69 #[.slice a1 a4 a3, .slice a0 a2 a5] w fun e w' => ∃ v, e = .returned v ∧ R v w' := bytes_Equal.ok a1 a4 a3 a0 a2 a5 (bytes_Equal.up a1 a4 a3 a0 a2 a5 h)
theorem bytes_Equal.run (a1 : Option Addr) (a4 : Nat) (a3 : Nat) (a0 : Option Addr) (a2 : Nat) (a5 : Nat) {V : Value} {Q : World → Prop} {w : World} (h : bytes_Equal.N a1 a4 a3 a0 a2 a5 (fun v w' => v = V ∧ Q w') w) : Calls Try.prog 69 #[.slice a1 a4 a3, .slice a0 a2 a5] w (Ret V Q) := (bytes_Equal.go a1 a4 a3 a0 a2 a5 h).mono fun e w' ⟨v, he, hv, hq⟩ => ⟨by rw [he, hv], hq⟩

/-- stamp.Put -/
def stamp_Put.M (aa : Option Addr) (ag : Nat) (af : Nat) (ab : Int) (ae : Int) (R : Value → World → Prop) (w : World) : Prop :=
 thenW (w.alloc (.cells #[.int .i64 ab, .int .i64 ae] 27)) fun ad =>
 thenW (ad.drew) fun a8 =>
 ∃ (T6 : Int), a8.cell? ((blk w.heap.size).add 0) = some (.int .i64 T6) ∧
 ∃ (W7 : Int), a8.cell? ((blk w.heap.size).add 1) = some (.int .i64 W7) ∧
 Calls Try.prog 87 #[.slice aa ag af, .int .i64 T6] a8 fun ac a6 => ∃ (a4 : Option Addr) (a3 : Nat) (a5 : Nat), ac = .returned (.slice a4 a3 a5) ∧
 a6.cell? ((blk w.heap.size).add 1) = some (.int .i64 W7) ∧
 Calls Try.prog 49 #[.slice a4 a3 a5, .int .u64 (IntKind.u64.wrap (if (0 : Int) > W7 then 0 else W7))] a6 fun a7 a9 => ∃ (a2 : Option Addr) (a0 : Nat) (a1 : Nat), a7 = .returned (.slice a2 a0 a1) ∧
 R (.slice a2 a0 a1) a9

theorem stamp_Put.eq (b1a : Option Addr) (b1n : Nat) (b1c : Nat) (sT2 : Int) (sW3 : Int) (R : Value → World → Prop) (w : World) : mfunc Try.prog [] 88 [.slice b1a b1n b1c, .agg #[.int .i64 sT2, .int .i64 sW3]] R w = stamp_Put.M b1a b1n b1c sT2 sW3 R w := by kernel_rfl
theorem stamp_Put.ok (a0 : Option Addr) (a3 : Nat) (a4 : Nat) (a1 : Int) (a2 : Int) {R : Value → World → Prop} {w : World} (h : stamp_Put.M a0 a3 a4 a1 a2 R w) : Calls Try.prog 88 #[.slice a0 a3 a4, .agg #[.int .i64 a1, .int .i64 a2]] w fun e w' => ∃ v, e = .returned v ∧ R v w' :=
  mfunc_ok follows (H := []) (args := [.slice a0 a3 a4, .agg #[.int .i64 a1, .int .i64 a2]]) (by rw [stamp_Put.eq]; exact h)

def stamp_Put.N (ab : Option Addr) (ae : Nat) (ad : Nat) (ac : Int) (aa : Int) (R : Value → World → Prop) (w : World) : Prop :=
 ∀ (a6 : World) (p6 : Nat), Ext no w a6 → Priv w a6 [p6] →
 Calls Try.prog 87 #[.slice ab ae ad, .int .i64 ac] a6 fun af a9 => ∃ (a5 : Option Addr) (a3 : Nat) (a4 : Nat), af = .returned (.slice a5 a3 a4) ∧
 Keep [p6] a6 a9 ∧
 Calls Try.prog 49 #[.slice a5 a3 a4, .int .u64 (IntKind.u64.wrap (if (0 : Int) > aa then 0 else aa))] a9 fun a8 a7 => ∃ (a2 : Option Addr) (a1 : Nat) (a0 : Nat), a8 = .returned (.slice a2 a1 a0) ∧
 R (.slice a2 a1 a0) a7

theorem stamp_Put.up (a9 : Option Addr) (aa : Nat) (ab : Nat) (a8 : Int) (a7 : Int) {R : Value → World → Prop} {w : World} (h : stamp_Put.N a9 aa ab a8 a7 R w) : stamp_Put.M a9 aa ab a8 a7 R w := by
  unfold stamp_Put.M
  unfold stamp_Put.N at h
  refine thenW_in fun aj e4 => ?_
  have a0 := Blk.of_new e4
  have ad := ((Ext.refl no w)).size
  have ac := (Ext.refl no w).x_alloc e4
  refine thenW_in fun af e5 => ?_
  have ah := ac.x_drew e5
  have a0 := a0.x_drew e5
  refine ⟨a8, a0.celli 0 rfl rfl, ?_⟩
  refine ⟨a7, a0.celli 1 rfl rfl, ?_⟩
  have h := h af (w.heap.size) ah (Priv.cons ad a0.lt Priv.nil)
  refine h.mono fun ai ak h => ?_
  obtain ⟨a6, a4, a5, he, hk, h⟩ := h
  refine ⟨a6, a4, a5, he, ?_⟩
  have a0 := hk.blk a0 (by simp)
  refine ⟨a0.celli 1 rfl rfl, ?_⟩
  refine h.mono fun ae ag h => ?_
  obtain ⟨a1, a3, a2, he, h⟩ := h
  refine ⟨a1, a3, a2, he, ?_⟩
  exact h

theorem stamp_Put.go (a0 : Option Addr) (a3 : Nat) (a4 : Nat) (a1 : Int) (a2 : Int) {R : Value → World → Prop} {w : World} (h : stamp_Put.N a0 a3 a4 a1 a2 R w) : Calls Try.prog 88 #[.slice a0 a3 a4, .agg #[.int .i64 a1, .int .i64 a2]] w fun e w' => ∃ v, e = .returned v ∧ R v w' := stamp_Put.ok a0 a3 a4 a1 a2 (stamp_Put.up a0 a3 a4 a1 a2 h)
/-- (*entry.writer).nums -/
def entry_writer_nums.M (ae : Option Addr) (ag : Option Addr) (af : Nat) (ah : Nat) (R : Value → World → Prop) (w : World) : Prop :=
 ∃ (I0 : Nat → List Value → World → Prop) (m4 : Nat), I0 m4 [.int .i64 0] w ∧ ∀ (m5 : Nat) (a3 : World) (t3 : Int), I0 m5 [.int .i64 t3] a3 →
 bif decide (t3 < (af : Int)) then (
 ag.elim False fun a7 =>
 0 ≤ (t3 : Int) ∧ (t3 : Int) < (af : Int) ∧
 ∃ (x8 : Int), a3.cell? (a7.add (Int.toNat t3 * 1)) = some (.int .u64 x8) ∧
 ae.elim False fun a9 =>
 ∃ (a5 : Option Addr) (a4 : Nat) (a8 : Nat), a3.cell? a9 = some (.slice a5 a4 a8) ∧
 Calls Try.prog 49 #[.slice a5 a4 a8, .int .u64 x8] a3 fun aa a6 => ∃ (a1 : Option Addr) (a2 : Nat) (a0 : Nat), aa = .returned (.slice a1 a2 a0) ∧
 ae.elim False fun ad =>
 canStore a6 (ad.add 0) ∧
 thenW (a6.setCell (ad.add 0) (.slice a1 a2 a0)) fun ab =>
 ∃ ac, ac < m5 ∧ I0 ac [.int .i64 (IntKind.i64.wrap (t3 + 1))] ab) else (
 R (.tuple #[]) a3)

theorem entry_writer_nums.eq (wv1 : Option Addr) (l2a : Option Addr) (l2n : Nat) (l2c : Nat) (R : Value → World → Prop) (w : World) : mfunc Try.prog [(0, [0, 6, 7], [(8, (.one (.int .i64)))])] 86 [.pointer wv1, .slice l2a l2n l2c] R w = entry_writer_nums.M wv1 l2a l2n l2c R w := by kernel_rfl
theorem entry_writer_nums.ok (a1 : Option Addr) (a0 : Option Addr) (a3 : Nat) (a2 : Nat) {R : Value → World → Prop} {w : World} (h : entry_writer_nums.M a1 a0 a3 a2 R w) : Calls Try.prog 86 #[.pointer a1, .slice a0 a3 a2] w fun e w' => ∃ v, e = .returned v ∧ R v w' :=
  mfunc_ok follows (H := [(0, [0, 6, 7], [(8, (.one (.int .i64)))])]) (args := [.pointer a1, .slice a0 a3 a2]) (by rw [entry_writer_nums.eq]; exact h)

def entry_writer_nums.N (ag : Option Addr) (af : Option Addr) (ac : Nat) (ah : Nat) (R : Value → World → Prop) (w : World) : Prop :=
 ∃ (I0 : Nat → List Value → World → Prop) (m4 : Nat), I0 m4 [.int .i64 0] w ∧ ∀ (m5 : Nat) (a3 : World) (t3 : Int), I0 m5 [.int .i64 t3] a3 →
 (t3 < (ac : Int) →
 ∃ a8 : Addr, af = some a8 ∧
 0 ≤ (t3 : Int) ∧ (t3 : Int) < (ac : Int) ∧
 ∃ (ae : Int), a3.cell? (a8.add (Int.toNat t3 * 1)) = some (.int .u64 ae) ∧
 ∃ a9 : Addr, ag = some a9 ∧
 ∃ (a6 : Option Addr) (a5 : Nat) (a7 : Nat), a3.cell? a9 = some (.slice a6 a5 a7) ∧
 Calls Try.prog 49 #[.slice a6 a5 a7, .int .u64 ae] a3 fun ab a4 => ∃ (a2 : Option Addr) (a1 : Nat) (a0 : Nat), ab = .returned (.slice a2 a1 a0) ∧
 canStore a4 (a9.add 0) ∧
 thenW (a4.setCell (a9.add 0) (.slice a2 a1 a0)) fun aa =>
 (-9223372036854775808 : Int) ≤ (t3 + 1) ∧ (t3 + 1) < 9223372036854775808 ∧
 ∃ ad, ad < m5 ∧ I0 ad [.int .i64 (t3 + 1)] aa) ∧
 ((ac : Int) ≤ t3 →
 R (.tuple #[]) a3)

theorem entry_writer_nums.up (ab : Option Addr) (a9 : Option Addr) (ac : Nat) (aa : Nat) {R : Value → World → Prop} {w : World} (h : entry_writer_nums.N ab a9 ac aa R w) : entry_writer_nums.M ab a9 ac aa R w := by
  unfold entry_writer_nums.M
  unfold entry_writer_nums.N at h
  obtain ⟨I0, m4, h0, h⟩ := h
  refine ⟨I0, m4, h0, fun m5 al t3 hI => ?_⟩
  have h := h m5 al t3 hI
  refine bif_of (fun c7 => ?_) (fun c7 => ?_)
  · have h := h.1 (of_decide_eq_true c7)
    obtain ⟨a8, ao, h⟩ := h
    refine elim_some ao ?_
    obtain ⟨ag, an, h⟩ := h
    refine ⟨ag, an, ?_⟩
    obtain ⟨ak, ap, h⟩ := h
    refine ⟨ak, ap, ?_⟩
    obtain ⟨aq, a3, h⟩ := h
    refine elim_some a3 ?_
    obtain ⟨a5, a4, a7, a6, h⟩ := h
    refine ⟨a5, a4, a7, a6, ?_⟩
    refine h.mono fun af ai h => ?_
    obtain ⟨a1, a0, a2, he, h⟩ := h
    refine ⟨a1, a0, a2, he, ?_⟩
    refine elim_some a3 ?_
    obtain ⟨hcs, h⟩ := h
    refine ⟨hcs, thenW_in fun ah ae => ?_⟩
    replace h := thenW_out h ae
    obtain ⟨aj, am, h⟩ := h
    try rw [w64 aj am]
    obtain ⟨ad, hk, h⟩ := h
    exact ⟨ad, hk, h⟩
  · have h := h.2 (Int.not_lt.1 (of_decide_eq_false c7))
    exact h

theorem entry_writer_nums.go (a1 : Option Addr) (a0 : Option Addr) (a3 : Nat) (a2 : Nat) {R : Value → World → Prop} {w : World} (h : entry_writer_nums.N a1 a0 a3 a2 R w) : Calls Try.prog 86 #[.pointer a1, .slice a0 a3 a2] w fun e w' => ∃ v, e = .returned v ∧ R v w' := entry_writer_nums.ok a1 a0 a3 a2 (entry_writer_nums.up a1 a0 a3 a2 h)
/-- entry.text -/
def entry_text.M (af : Int) (an : Int) (aq : Int) (ar : Int) (au : Int) (al : Int) (am : Option Addr) (ak : Nat) (ai : Nat) (av : Int) (R : Value → World → Prop) (w : World) : Prop :=
 thenW (w.alloc (.cells #[.int .i64 af, .int .i64 an, .int .u64 aq, .int .i64 ar, .int .i64 au, .int .i64 al, .slice am ak ai, .int .u64 av] 29)) fun b8 =>
 thenW (b8.alloc (.cells #[.slice none 0 0] 146)) fun ac =>
 ∃ (a1 : Int), ac.cell? ((blk w.heap.size).add 0) = some (.int .i64 a1) ∧
 ∃ (a8 : Int), ac.cell? ((blk w.heap.size).add 1) = some (.int .i64 a8) ∧
 ∃ (ad : Int), ac.cell? ((blk w.heap.size).add 2) = some (.int .u64 ad) ∧
 thenW (ac.alloc (.cells #[.int .u64 (IntKind.u64.wrap a1), .int .u64 (IntKind.u64.wrap a8), .int .u64 ad] 25)) fun b7 =>
 Calls Try.prog 86 #[.pointer (some (blk b8.heap.size)), .slice (some (blk ac.heap.size)) 3 3] b7 fun b1 b3 => b1 = .returned (.tuple #[]) ∧
 thenW (b3.drew) fun aj =>
 ∃ (aw : Option Addr) (az : Nat) (b0 : Nat), aj.cell? (blk b8.heap.size) = some (.slice aw az b0) ∧
 ∃ (ao : Int) (ap : Int), cellsAt aj ((blk w.heap.size).add 3) [.int .i64 ao, .int .i64 ap] 0 ∧
 ∃ (a0 : Int), aj.cell? ((blk w.heap.size).add 5) = some (.int .i64 a0) ∧
 Calls Try.prog 88 #[.slice aw az b0, .agg #[.int .i64 ao, .int .i64 ap]] aj fun b2 ax => ∃ (a9 : Option Addr) (aa : Nat) (ag : Nat), b2 = .returned (.slice a9 aa ag) ∧
 ax.cell? ((blk w.heap.size).add 5) = some (.int .i64 a0) ∧
 Calls Try.prog 87 #[.slice a9 aa ag, .int .i64 a0] ax fun b4 ay => ∃ (ah : Option Addr) (ab : Nat) (ae : Nat), b4 = .returned (.slice ah ab ae) ∧
 ∃ (a5 : Option Addr) (a7 : Nat) (a6 : Nat), ay.cell? ((blk w.heap.size).add 6) = some (.slice a5 a7 a6) ∧
 Calls Try.prog 89 #[.slice ah ab ae, .slice a5 a7 a6] ay fun b5 b6 => ∃ (a3 : Option Addr) (a2 : Nat) (a4 : Nat), b5 = .returned (.slice a3 a2 a4) ∧
 R (.slice a3 a2 a4) b6

theorem entry_text.eq (eWriter1 : Int) (eIndex2 : Int) (ePrev3 : Int) (eAtT4 : Int) (eAtW5 : Int) (eEpoch6 : Int) (eBody7a : Option Addr) (eBody7n : Nat) (eBody7c : Nat) (eSig8 : Int) (R : Value → World → Prop) (w : World) : mfunc Try.prog [] 78 [.agg #[.int .i64 eWriter1, .int .i64 eIndex2, .int .u64 ePrev3, .int .i64 eAtT4, .int .i64 eAtW5, .int .i64 eEpoch6, .slice eBody7a eBody7n eBody7c, .int .u64 eSig8]] R w = entry_text.M eWriter1 eIndex2 ePrev3 eAtT4 eAtW5 eEpoch6 eBody7a eBody7n eBody7c eSig8 R w := by kernel_rfl
theorem entry_text.ok (a0 : Int) (a4 : Int) (a6 : Int) (a7 : Int) (a8 : Int) (a1 : Int) (a3 : Option Addr) (a2 : Nat) (a5 : Nat) (a9 : Int) {R : Value → World → Prop} {w : World} (h : entry_text.M a0 a4 a6 a7 a8 a1 a3 a2 a5 a9 R w) : Calls Try.prog 78 #[.agg #[.int .i64 a0, .int .i64 a4, .int .u64 a6, .int .i64 a7, .int .i64 a8, .int .i64 a1, .slice a3 a2 a5, .int .u64 a9]] w fun e w' => ∃ v, e = .returned v ∧ R v w' :=
  mfunc_ok follows (H := []) (args := [.agg #[.int .i64 a0, .int .i64 a4, .int .u64 a6, .int .i64 a7, .int .i64 a8, .int .i64 a1, .slice a3 a2 a5, .int .u64 a9]]) (by rw [entry_text.eq]; exact h)

def entry_text.N (ab : Int) (ag : Int) (aj : Int) (an : Int) (am : Int) (ae : Int) (af : Option Addr) (ad : Nat) (ac : Nat) (b1 : Int) (R : Value → World → Prop) (w : World) : Prop :=
 ∀ (a6 : World) (al : Nat) (av : Nat), Ext no w a6 → Blk a6 al 146 [.slice none 0 0] → w.heap.size ≤ al → al < a6.heap.size → Privq w al [av] →
 ∀ (a4 : World) (au : Nat), Ext no a6 a4 → Blk a4 au 25 [.int .u64 (IntKind.u64.wrap ab), .int .u64 (IntKind.u64.wrap ag), .int .u64 aj] → a6.heap.size ≤ au → au < a4.heap.size →
 Calls Try.prog 86 #[.pointer (some (blk al)), .slice (some (blk au)) 3 3] a4 fun aw ai => aw = .returned (.tuple #[]) ∧
 Keep [av] a4 ai ∧
 ∃ (ap : Option Addr) (ar : Nat) (ao : Nat), ai.cell? (blk al) = some (.slice ap ar ao) ∧
 ∀ (ah : World), Ext no ai ah →
 Calls Try.prog 88 #[.slice ap ar ao, .agg #[.int .i64 an, .int .i64 am]] ah fun az ak => ∃ (aa : Option Addr) (a5 : Nat) (a3 : Nat), az = .returned (.slice aa a5 a3) ∧
 Keep [av] ah ak ∧
 Calls Try.prog 87 #[.slice aa a5 a3, .int .i64 ae] ak fun b0 aq => ∃ (a9 : Option Addr) (a7 : Nat) (a8 : Nat), b0 = .returned (.slice a9 a7 a8) ∧
 Keep [av] ak aq ∧
 Calls Try.prog 89 #[.slice a9 a7 a8, .slice af ad ac] aq fun ax ay => ∃ (a2 : Option Addr) (a0 : Nat) (a1 : Nat), ax = .returned (.slice a2 a0 a1) ∧
 R (.slice a2 a0 a1) ay

theorem entry_text.up (a0 : Int) (a6 : Int) (a7 : Int) (a9 : Int) (a8 : Int) (a4 : Int) (a5 : Option Addr) (a3 : Nat) (a2 : Nat) (ae : Int) {R : Value → World → Prop} {w : World} (h : entry_text.N a0 a6 a7 a9 a8 a4 a5 a3 a2 ae R w) : entry_text.M a0 a6 a7 a9 a8 a4 a5 a3 a2 ae R w := by
  unfold entry_text.M
  unfold entry_text.N at h
  refine thenW_in fun b7 e9 => ?_
  have a1 := Blk.of_new e9
  have az := ((Ext.refl no w)).size
  have ay := (Ext.refl no w).x_alloc e9
  refine thenW_in fun ad am => ?_
  have b1 := a1.lt
  have a1 := a1.x_alloc am
  have h := h ad b7.heap.size (w.heap.size) (ay.x_alloc am) (Blk.of_new am) (ay).size (size_lt_alloc am) (Privq.cons az b1 Privq.nil)
  refine ⟨a0, a1.celli 0 rfl rfl, ?_⟩
  refine ⟨a6, a1.celli 1 rfl rfl, ?_⟩
  refine ⟨a7, a1.celli 2 rfl rfl, ?_⟩
  refine thenW_in fun ao an => ?_
  have a1 := a1.x_alloc an
  have h := h ao ad.heap.size ((Ext.refl no ad).x_alloc an) (Blk.of_new an) ((Ext.refl no ad)).size (size_lt_alloc an)
  refine h.mono fun b0 aq h => ?_
  obtain ⟨he, hk, h⟩ := h
  refine ⟨he, ?_⟩
  have a1 := hk.blk a1 (by simp)
  refine thenW_in fun ap ax => ?_
  have al := (Ext.refl no aq).x_drew ax
  have a1 := a1.x_drew ax
  obtain ⟨av, aw, au, ar, h⟩ := h
  refine ⟨av, aw, au, (al).cell ar id, ?_⟩
  refine ⟨a9, a8, ⟨a1.celli 3 rfl rfl, a1.celli 4 rfl rfl, trivial⟩, ?_⟩
  refine ⟨a4, a1.celli 5 rfl rfl, ?_⟩
  have h := h ap al
  refine h.mono fun b5 b8 h => ?_
  obtain ⟨ak, ag, af, he, hk, h⟩ := h
  refine ⟨ak, ag, af, he, ?_⟩
  have a1 := hk.blk a1 (by simp)
  refine ⟨a1.celli 5 rfl rfl, ?_⟩
  refine h.mono fun b6 b4 h => ?_
  obtain ⟨aj, ah, ai, he, hk, h⟩ := h
  refine ⟨aj, ah, ai, he, ?_⟩
  have a1 := hk.blk a1 (by simp)
  refine ⟨a5, a3, a2, a1.celli 6 rfl rfl, ?_⟩
  refine h.mono fun b2 b3 h => ?_
  obtain ⟨ac, aa, ab, he, h⟩ := h
  refine ⟨ac, aa, ab, he, ?_⟩
  exact h

theorem entry_text.go (a0 : Int) (a4 : Int) (a6 : Int) (a7 : Int) (a8 : Int) (a1 : Int) (a3 : Option Addr) (a2 : Nat) (a5 : Nat) (a9 : Int) {R : Value → World → Prop} {w : World} (h : entry_text.N a0 a4 a6 a7 a8 a1 a3 a2 a5 a9 R w) : Calls Try.prog 78 #[.agg #[.int .i64 a0, .int .i64 a4, .int .u64 a6, .int .i64 a7, .int .i64 a8, .int .i64 a1, .slice a3 a2 a5, .int .u64 a9]] w fun e w' => ∃ v, e = .returned v ∧ R v w' := entry_text.ok a0 a4 a6 a7 a8 a1 a3 a2 a5 a9 (entry_text.up a0 a4 a6 a7 a8 a1 a3 a2 a5 a9 h)
/-- entry.Text -/
def entry_Text.M (an : Int) (av : Int) (ax : Int) (ay : Int) (az : Int) (ar : Int) (au : Option Addr) (aq : Nat) (ap : Nat) (b0 : Int) (R : Value → World → Prop) (w : World) : Prop :=
 thenW (w.alloc (.cells #[.int .i64 an, .int .i64 av, .int .u64 ax, .int .i64 ay, .int .i64 az, .int .i64 ar, .slice au aq ap, .int .u64 b0] 29)) fun b4 =>
 ∃ (a1 : Int) (a4 : Int) (ac : Int) (am : Int) (ai : Int) (a6 : Int) (a7 : Option Addr) (a5 : Nat) (aa : Nat) (ao : Int), cellsAt b4 (blk w.heap.size) [.int .i64 a1, .int .i64 a4, .int .u64 ac, .int .i64 am, .int .i64 ai, .int .i64 a6, .slice a7 a5 aa, .int .u64 ao] 0 ∧
 Calls Try.prog 34 #[.agg #[.int .i64 a1, .int .i64 a4, .int .u64 ac, .int .i64 am, .int .i64 ai, .int .i64 a6, .slice a7 a5 aa, .int .u64 ao]] b4 fun b1 aw => ∃ (ae : Bool), b1 = .returned (.bool ae) ∧
 bif !ae then (
 R (.tuple #[.slice none 0 0, .int .i64 1]) aw) else (
 ∃ (a0 : Int) (a2 : Int) (af : Int) (aj : Int) (al : Int) (ab : Int) (a8 : Option Addr) (a9 : Nat) (a3 : Nat) (ak : Int), cellsAt aw (blk w.heap.size) [.int .i64 a0, .int .i64 a2, .int .u64 af, .int .i64 aj, .int .i64 al, .int .i64 ab, .slice a8 a9 a3, .int .u64 ak] 0 ∧
 Calls Try.prog 78 #[.agg #[.int .i64 a0, .int .i64 a2, .int .u64 af, .int .i64 aj, .int .i64 al, .int .i64 ab, .slice a8 a9 a3, .int .u64 ak]] aw fun b2 b3 => ∃ (ah : Option Addr) (ad : Nat) (ag : Nat), b2 = .returned (.slice ah ad ag) ∧
 R (.tuple #[.slice ah ad ag, .int .i64 0]) b3)

theorem entry_Text.eq (eWriter1 : Int) (eIndex2 : Int) (ePrev3 : Int) (eAtT4 : Int) (eAtW5 : Int) (eEpoch6 : Int) (eBody7a : Option Addr) (eBody7n : Nat) (eBody7c : Nat) (eSig8 : Int) (R : Value → World → Prop) (w : World) : mfunc Try.prog [] 60 [.agg #[.int .i64 eWriter1, .int .i64 eIndex2, .int .u64 ePrev3, .int .i64 eAtT4, .int .i64 eAtW5, .int .i64 eEpoch6, .slice eBody7a eBody7n eBody7c, .int .u64 eSig8]] R w = entry_Text.M eWriter1 eIndex2 ePrev3 eAtT4 eAtW5 eEpoch6 eBody7a eBody7n eBody7c eSig8 R w := by kernel_rfl
theorem entry_Text.ok (a0 : Int) (a4 : Int) (a6 : Int) (a7 : Int) (a8 : Int) (a1 : Int) (a3 : Option Addr) (a2 : Nat) (a5 : Nat) (a9 : Int) {R : Value → World → Prop} {w : World} (h : entry_Text.M a0 a4 a6 a7 a8 a1 a3 a2 a5 a9 R w) : Calls Try.prog 60 #[.agg #[.int .i64 a0, .int .i64 a4, .int .u64 a6, .int .i64 a7, .int .i64 a8, .int .i64 a1, .slice a3 a2 a5, .int .u64 a9]] w fun e w' => ∃ v, e = .returned v ∧ R v w' :=
  mfunc_ok follows (H := []) (args := [.agg #[.int .i64 a0, .int .i64 a4, .int .u64 a6, .int .i64 a7, .int .i64 a8, .int .i64 a1, .slice a3 a2 a5, .int .u64 a9]]) (by rw [entry_Text.eq]; exact h)

def entry_Text.N (a0 : Int) (a4 : Int) (a6 : Int) (aa : Int) (ab : Int) (a1 : Int) (a3 : Option Addr) (a2 : Nat) (a5 : Nat) (ad : Int) (R : Value → World → Prop) (w : World) : Prop :=
 ((entry_Right.F a0 a4 a6 aa ab a1 a3 a2 a5 ad) = false →
 ∀ (ac : World), Ext no w ac →
 R (.tuple #[.slice none 0 0, .int .i64 1]) ac) ∧
 ((entry_Right.F a0 a4 a6 aa ab a1 a3 a2 a5 ad) = true →
 ∀ (ac : World), Ext no w ac →
 Calls Try.prog 78 #[.agg #[.int .i64 a0, .int .i64 a4, .int .u64 a6, .int .i64 aa, .int .i64 ab, .int .i64 a1, .slice a3 a2 a5, .int .u64 ad]] ac fun af ae => ∃ (a7 : Option Addr) (a9 : Nat) (a8 : Nat), af = .returned (.slice a7 a9 a8) ∧
 R (.tuple #[.slice a7 a9 a8, .int .i64 0]) ae)

theorem entry_Text.up (a0 : Int) (a5 : Int) (a6 : Int) (a7 : Int) (a8 : Int) (a3 : Int) (a4 : Option Addr) (a2 : Nat) (a1 : Nat) (a9 : Int) {R : Value → World → Prop} {w : World} (h : entry_Text.N a0 a5 a6 a7 a8 a3 a4 a2 a1 a9 R w) : entry_Text.M a0 a5 a6 a7 a8 a3 a4 a2 a1 a9 R w := by
  unfold entry_Text.M
  unfold entry_Text.N at h
  refine thenW_in fun ak e9 => ?_
  have aa := Blk.of_new e9
  have aj := ((Ext.refl no w)).size
  have ai := (Ext.refl no w).x_alloc e9
  refine ⟨a0, a5, a6, a7, a8, a3, a4, a2, a1, a9, ⟨aa.celli 0 rfl rfl, aa.celli 1 rfl rfl, aa.celli 2 rfl rfl, aa.celli 3 rfl rfl, aa.celli 4 rfl rfl, aa.celli 5 rfl rfl, aa.celli 6 rfl rfl, aa.celli 7 rfl rfl, trivial⟩, ?_⟩
  refine (entry_Right.pure a0 a5 a6 a7 a8 a3 a4 a2 a1 a9).mono fun ee ww10 ⟨he, hxx⟩ => ⟨(entry_Right.F a0 a5 a6 a7 a8 a3 a4 a2 a1 a9), he, ?_⟩
  have ae := ai.trans hxx
  have aa := aa.ext hxx id
  refine bif_of (fun af => ?_) (fun af => ?_)
  · have h := h.1 (not_t af)
    have h := h ww10 ae
    exact h
  · have h := h.2 (not_f af)
    refine ⟨a0, a5, a6, a7, a8, a3, a4, a2, a1, a9, ⟨aa.celli 0 rfl rfl, aa.celli 1 rfl rfl, aa.celli 2 rfl rfl, aa.celli 3 rfl rfl, aa.celli 4 rfl rfl, aa.celli 5 rfl rfl, aa.celli 6 rfl rfl, aa.celli 7 rfl rfl, trivial⟩, ?_⟩
    have h := h ww10 ae
    refine h.mono fun ag ah h => ?_
    obtain ⟨ac, ad, ab, he, h⟩ := h
    refine ⟨ac, ad, ab, he, ?_⟩
    exact h

theorem entry_Text.go (a0 : Int) (a4 : Int) (a6 : Int) (a7 : Int) (a8 : Int) (a1 : Int) (a3 : Option Addr) (a2 : Nat) (a5 : Nat) (a9 : Int) {R : Value → World → Prop} {w : World} (h : entry_Text.N a0 a4 a6 a7 a8 a1 a3 a2 a5 a9 R w) : Calls Try.prog 60 #[.agg #[.int .i64 a0, .int .i64 a4, .int .u64 a6, .int .i64 a7, .int .i64 a8, .int .i64 a1, .slice a3 a2 a5, .int .u64 a9]] w fun e w' => ∃ v, e = .returned v ∧ R v w' := entry_Text.ok a0 a4 a6 a7 a8 a1 a3 a2 a5 a9 (entry_Text.up a0 a4 a6 a7 a8 a1 a3 a2 a5 a9 h)
/-- entry.Same -/
def entry_Same.M (ag : Int) (au : Int) (b4 : Int) (b7 : Int) (b8 : Int) (ap : Int) (ao : Option Addr) (aq : Nat) (av : Nat) (b9 : Int) (ak : Int) (aj : Int) (ar : Int) (b3 : Int) (b2 : Int) (ai : Int) (af : Option Addr) (ah : Nat) (an : Nat) (b5 : Int) (R : Value → World → Prop) (w : World) : Prop :=
 thenW (w.alloc (.cells #[.int .i64 ag, .int .i64 au, .int .u64 b4, .int .i64 b7, .int .i64 b8, .int .i64 ap, .slice ao aq av, .int .u64 b9] 29)) fun a1 =>
 thenW (a1.alloc (.cells #[.int .i64 ak, .int .i64 aj, .int .u64 ar, .int .i64 b3, .int .i64 b2, .int .i64 ai, .slice af ah an, .int .u64 b5] 29)) fun bb =>
 thenW (bb.drew) fun b6 =>
 ∃ (a9 : Option Addr) (ab : Nat) (ae : Nat), b6.cell? ((blk w.heap.size).add 6) = some (.slice a9 ab ae) ∧
 ∃ (a6 : Option Addr) (a8 : Nat) (a4 : Nat), b6.cell? ((blk a1.heap.size).add 6) = some (.slice a6 a8 a4) ∧
 Calls Try.prog 69 #[.slice a9 ab ae, .slice a6 a8 a4] b6 fun ba a0 => ∃ (a7 : Bool), ba = .returned (.bool a7) ∧
 bif a7 then (
 ∃ (a3 : Int), a0.cell? ((blk w.heap.size).add 0) = some (.int .i64 a3) ∧
 ∃ (a2 : Int), a0.cell? ((blk a1.heap.size).add 0) = some (.int .i64 a2) ∧
 bif a3 == a2 then (
 ∃ (ad : Int), a0.cell? ((blk w.heap.size).add 1) = some (.int .i64 ad) ∧
 ∃ (aa : Int), a0.cell? ((blk a1.heap.size).add 1) = some (.int .i64 aa) ∧
 bif ad == aa then (
 ∃ (am : Int), a0.cell? ((blk w.heap.size).add 2) = some (.int .u64 am) ∧
 ∃ (al : Int), a0.cell? ((blk a1.heap.size).add 2) = some (.int .u64 al) ∧
 bif am == al then (
 ∃ (aw : Int) (az : Int), cellsAt a0 ((blk w.heap.size).add 3) [.int .i64 aw, .int .i64 az] 0 ∧
 ∃ (b1 : Int) (b0 : Int), cellsAt a0 ((blk a1.heap.size).add 3) [.int .i64 b1, .int .i64 b0] 0 ∧
 ∃ (bc : Bool), (binOp .eql 27 (.agg #[.int .i64 aw, .int .i64 az]) (.agg #[.int .i64 b1, .int .i64 b0])).run Try.prog a0 = .ok (.bool bc) a0 ∧
 bif bc then (
 ∃ (a5 : Int), a0.cell? ((blk w.heap.size).add 5) = some (.int .i64 a5) ∧
 ∃ (ac : Int), a0.cell? ((blk a1.heap.size).add 5) = some (.int .i64 ac) ∧
 bif a5 == ac then (
 ∃ (ax : Int), a0.cell? ((blk w.heap.size).add 7) = some (.int .u64 ax) ∧
 ∃ (ay : Int), a0.cell? ((blk a1.heap.size).add 7) = some (.int .u64 ay) ∧
 R (.bool (ax == ay)) a0) else (
 R (.bool false) a0)) else (
 R (.bool false) a0)) else (
 R (.bool false) a0)) else (
 R (.bool false) a0)) else (
 R (.bool false) a0)) else (
 R (.bool false) a0)

theorem entry_Same.eq (aWriter1 : Int) (aIndex2 : Int) (aPrev3 : Int) (aAtT4 : Int) (aAtW5 : Int) (aEpoch6 : Int) (aBody7a : Option Addr) (aBody7n : Nat) (aBody7c : Nat) (aSig8 : Int) (bWriter9 : Int) (bIndex10 : Int) (bPrev11 : Int) (bAtT12 : Int) (bAtW13 : Int) (bEpoch14 : Int) (bBody15a : Option Addr) (bBody15n : Nat) (bBody15c : Nat) (bSig16 : Int) (R : Value → World → Prop) (w : World) : mfunc Try.prog [] 38 [.agg #[.int .i64 aWriter1, .int .i64 aIndex2, .int .u64 aPrev3, .int .i64 aAtT4, .int .i64 aAtW5, .int .i64 aEpoch6, .slice aBody7a aBody7n aBody7c, .int .u64 aSig8], .agg #[.int .i64 bWriter9, .int .i64 bIndex10, .int .u64 bPrev11, .int .i64 bAtT12, .int .i64 bAtW13, .int .i64 bEpoch14, .slice bBody15a bBody15n bBody15c, .int .u64 bSig16]] R w = entry_Same.M aWriter1 aIndex2 aPrev3 aAtT4 aAtW5 aEpoch6 aBody7a aBody7n aBody7c aSig8 bWriter9 bIndex10 bPrev11 bAtT12 bAtW13 bEpoch14 bBody15a bBody15n bBody15c bSig16 R w := by kernel_rfl
theorem entry_Same.ok (a1 : Int) (ac : Int) (af : Int) (ah : Int) (ai : Int) (a8 : Int) (a7 : Option Addr) (a9 : Nat) (ab : Nat) (aj : Int) (a5 : Int) (a4 : Int) (aa : Int) (ad : Int) (ae : Int) (a3 : Int) (a0 : Option Addr) (a2 : Nat) (a6 : Nat) (ag : Int) {R : Value → World → Prop} {w : World} (h : entry_Same.M a1 ac af ah ai a8 a7 a9 ab aj a5 a4 aa ad ae a3 a0 a2 a6 ag R w) : Calls Try.prog 38 #[.agg #[.int .i64 a1, .int .i64 ac, .int .u64 af, .int .i64 ah, .int .i64 ai, .int .i64 a8, .slice a7 a9 ab, .int .u64 aj], .agg #[.int .i64 a5, .int .i64 a4, .int .u64 aa, .int .i64 ad, .int .i64 ae, .int .i64 a3, .slice a0 a2 a6, .int .u64 ag]] w fun e w' => ∃ v, e = .returned v ∧ R v w' :=
  mfunc_ok follows (H := []) (args := [.agg #[.int .i64 a1, .int .i64 ac, .int .u64 af, .int .i64 ah, .int .i64 ai, .int .i64 a8, .slice a7 a9 ab, .int .u64 aj], .agg #[.int .i64 a5, .int .i64 a4, .int .u64 aa, .int .i64 ad, .int .i64 ae, .int .i64 a3, .slice a0 a2 a6, .int .u64 ag]]) (by rw [entry_Same.eq]; exact h)

def entry_Same.N (a1 : Int) (a8 : Int) (ad : Int) (aj : Int) (ak : Int) (a6 : Int) (af : Option Addr) (ag : Nat) (ah : Nat) (am : Int) (a4 : Int) (a3 : Int) (a7 : Int) (ab : Int) (ac : Int) (a2 : Int) (a9 : Option Addr) (aa : Nat) (ae : Nat) (al : Int) (R : Value → World → Prop) (w : World) : Prop :=
 ∀ (ai : World) (ao : Nat) (ap : Nat), Ext no w ai → Priv w ai [ao, ap] →
 Calls Try.prog 69 #[.slice af ag ah, .slice a9 aa ae] ai fun an a5 => ∃ (a0 : Bool), an = .returned (.bool a0) ∧
 Keep [ao, ap] ai a5 ∧
 (a0 = true →
 (a1 = a4 →
 (a8 = a3 →
 (ad = a7 →
 (aj = ab ∧ ak = ac →
 (a6 = a2 →
 R (.bool (am == al)) a5) ∧
 (a6 ≠ a2 →
 R (.bool false) a5)) ∧
 (¬ (aj = ab ∧ ak = ac) →
 R (.bool false) a5)) ∧
 (ad ≠ a7 →
 R (.bool false) a5)) ∧
 (a8 ≠ a3 →
 R (.bool false) a5)) ∧
 (a1 ≠ a4 →
 R (.bool false) a5)) ∧
 (a0 = false →
 R (.bool false) a5)

theorem entry_Same.up (a1 : Int) (ae : Int) (ag : Int) (ai : Int) (aj : Int) (a8 : Int) (a7 : Option Addr) (a9 : Nat) (ad : Nat) (al : Int) (a5 : Int) (a4 : Int) (aa : Int) (ab : Int) (ac : Int) (a3 : Int) (a0 : Option Addr) (a2 : Nat) (a6 : Nat) (ah : Int) {R : Value → World → Prop} {w : World} (h : entry_Same.N a1 ae ag ai aj a8 a7 a9 ad al a5 a4 aa ab ac a3 a0 a2 a6 ah R w) : entry_Same.M a1 ae ag ai aj a8 a7 a9 ad al a5 a4 aa ab ac a3 a0 a2 a6 ah R w := by
  unfold entry_Same.M
  unfold entry_Same.N at h
  refine thenW_in fun av b2 => ?_
  have af := Blk.of_new b2
  have b4 := ((Ext.refl no w)).size
  have an := (Ext.refl no w).x_alloc b2
  refine thenW_in fun b7 az => ?_
  have ak := Blk.of_new az
  have b8 := (an).size
  have b3 := Nat.ne_of_lt af.lt
  have af := af.x_alloc az
  have ap := an.x_alloc az
  refine thenW_in fun b1 au => ?_
  have b0 := ap.x_drew au
  have af := af.x_drew au
  have ak := ak.x_drew au
  refine ⟨a7, a9, ad, af.celli 6 rfl rfl, ?_⟩
  refine ⟨a0, a2, a6, ak.celli 6 rfl rfl, ?_⟩
  have h := h b1 (w.heap.size) (av.heap.size) b0 (Priv.cons b4 af.lt (Priv.cons b8 ak.lt Priv.nil))
  refine h.mono fun b5 b6 h => ?_
  obtain ⟨am, he, hk, h⟩ := h
  refine ⟨am, he, ?_⟩
  have af := hk.blk af (by simp)
  have ak := hk.blk ak (by simp)
  refine bif_of (fun ar => ?_) (fun ar => ?_)
  · have h := h.1 ar
    refine ⟨a1, af.celli 0 rfl rfl, ?_⟩
    refine ⟨a5, ak.celli 0 rfl rfl, ?_⟩
    refine bif_of (fun ao => ?_) (fun ao => ?_)
    · have h := h.1 (beq_t ao)
      refine ⟨ae, af.celli 1 rfl rfl, ?_⟩
      refine ⟨a4, ak.celli 1 rfl rfl, ?_⟩
      refine bif_of (fun aq => ?_) (fun aq => ?_)
      · have h := h.1 (beq_t aq)
        refine ⟨ag, af.celli 2 rfl rfl, ?_⟩
        refine ⟨aa, ak.celli 2 rfl rfl, ?_⟩
        refine bif_of (fun ay => ?_) (fun ay => ?_)
        · have h := h.1 (beq_t ay)
          refine ⟨ai, aj, ⟨af.celli 3 rfl rfl, af.celli 4 rfl rfl, trivial⟩, ?_⟩
          refine ⟨ab, ac, ⟨ak.celli 3 rfl rfl, ak.celli 4 rfl rfl, trivial⟩, ?_⟩
          refine ⟨_, eqT27_eq ai aj ab ac _, ?_⟩
          refine bif_of (fun ax => ?_) (fun ax => ?_)
          · have h := h.1 (of_decide_eq_true ax)
            refine ⟨a8, af.celli 5 rfl rfl, ?_⟩
            refine ⟨a3, ak.celli 5 rfl rfl, ?_⟩
            refine bif_of (fun aw => ?_) (fun aw => ?_)
            · have h := h.1 (beq_t aw)
              refine ⟨al, af.celli 7 rfl rfl, ?_⟩
              refine ⟨ah, ak.celli 7 rfl rfl, ?_⟩
              exact h
            · have h := h.2 (beq_f aw)
              exact h
          · have h := h.2 (of_decide_eq_false ax)
            exact h
        · have h := h.2 (beq_f ay)
          exact h
      · have h := h.2 (beq_f aq)
        exact h
    · have h := h.2 (beq_f ao)
      exact h
  · have h := h.2 ar
    exact h

theorem entry_Same.go (a1 : Int) (ac : Int) (af : Int) (ah : Int) (ai : Int) (a8 : Int) (a7 : Option Addr) (a9 : Nat) (ab : Nat) (aj : Int) (a5 : Int) (a4 : Int) (aa : Int) (ad : Int) (ae : Int) (a3 : Int) (a0 : Option Addr) (a2 : Nat) (a6 : Nat) (ag : Int) {R : Value → World → Prop} {w : World} (h : entry_Same.N a1 ac af ah ai a8 a7 a9 ab aj a5 a4 aa ad ae a3 a0 a2 a6 ag R w) : Calls Try.prog 38 #[.agg #[.int .i64 a1, .int .i64 ac, .int .u64 af, .int .i64 ah, .int .i64 ai, .int .i64 a8, .slice a7 a9 ab, .int .u64 aj], .agg #[.int .i64 a5, .int .i64 a4, .int .u64 aa, .int .i64 ad, .int .i64 ae, .int .i64 a3, .slice a0 a2 a6, .int .u64 ag]] w fun e w' => ∃ v, e = .returned v ∧ R v w' := entry_Same.ok a1 ac af ah ai a8 a7 a9 ab aj a5 a4 aa ad ae a3 a0 a2 a6 ag (entry_Same.up a1 ac af ah ai a8 a7 a9 ab aj a5 a4 aa ad ae a3 a0 a2 a6 ag h)
theorem entry_Same.run (a1 : Int) (ac : Int) (af : Int) (ah : Int) (ai : Int) (a8 : Int) (a7 : Option Addr) (a9 : Nat) (ab : Nat) (aj : Int) (a5 : Int) (a4 : Int) (aa : Int) (ad : Int) (ae : Int) (a3 : Int) (a0 : Option Addr) (a2 : Nat) (a6 : Nat) (ag : Int) {V : Value} {Q : World → Prop} {w : World} (h : entry_Same.N a1 ac af ah ai a8 a7 a9 ab aj a5 a4 aa ad ae a3 a0 a2 a6 ag (fun v w' => v = V ∧ Q w') w) : Calls Try.prog 38 #[.agg #[.int .i64 a1, .int .i64 ac, .int .u64 af, .int .i64 ah, .int .i64 ai, .int .i64 a8, .slice a7 a9 ab, .int .u64 aj], .agg #[.int .i64 a5, .int .i64 a4, .int .u64 aa, .int .i64 ad, .int .i64 ae, .int .i64 a3, .slice a0 a2 a6, .int .u64 ag]] w (Ret V Q) := (entry_Same.go a1 ac af ah ai a8 a7 a9 ab aj a5 a4 aa ad ae a3 a0 a2 a6 ag h).mono fun e w' ⟨v, he, hv, hq⟩ => ⟨by rw [he, hv], hq⟩

theorem keep1 {w w' : World} {m : Nat → Prop} {p : Nat} (h : Ext m w w') (hp : ¬ m p) : Keep [p] w w' := h.keep fun q hq _ => by simp at hq; subst hq; exact hp
theorem keep2 {w w' : World} {m : Nat → Prop} {p q : Nat} (h : Ext m w w') (hp : ¬ m p) (hq : ¬ m q) : Keep [p, q] w w' := h.keep fun r hr _ => by
  simp at hr
  rcases hr with rfl | rfl
  · exact hp
  · exact hq
theorem OwnB.up {N M : Nat} {w : World} {a : Option Addr} {c : Nat} {bs : List UInt8} (h : OwnB N w a c bs) (hM : M ≤ N) : OwnB M w a c bs := ⟨h.own, fun ad ha => ⟨Nat.le_trans hM (h.fr ad ha).1, (h.fr ad ha).2⟩⟩
/-- a row of one's own, and bytes that came behind it. -/
theorem app {w0 wi w1 : World} {N : Nat} {a xa : Option Addr} {c xc : Nat} {l x : List UInt8} (hB : OwnB N wi a c l) (X : Ext no w0 wi) (h0 : w0.heap.size ≤ N) (hN : N ≤ wi.heap.size) (hx : Ext no wi w1) (hO : RowAt w1 xa (bytesV x)) (hl : l.length + x.length ≤ 100000000) :
    ∃ a' c' w', (Builtin.append_ #[23, 23] 23 #[.slice a l.length c, .slice xa x.length xc]).run Try.prog w1 = .ok (.slice a' (l ++ x).length c') w' ∧ OwnB N w' a' c' (l ++ x) ∧ Ext no w0 w' ∧ Ext (fun b => N ≤ b) w1 w' ∧ N ≤ w'.heap.size := by
  obtain ⟨a', c', w', hr, hO2, hx2⟩ := (hB.no hx).append (t := 23) (ty := 23) Try.underlying23 (Nat.le_trans hN hx.size) (xc := xc) hO hl
  exact ⟨a', c', w', hr, hO2, (X.trans hx).then hx2 fun b hb => .inr (Nat.le_trans h0 hb), hx2, Nat.le_trans hN (Nat.le_trans hx.size hx2.size)⟩
section
variable {w w' : World} {a : Option Addr} {c N p : Nat} {bs : List UInt8} {k : Int}
theorem Put_spec (h : RowAt w a (bytesV bs)) (hl : bs.length ≤ 900000) {t s : Int} (h0 : -9223372036854775808 ≤ t) (h1 : t < 9223372036854775808) (hs : s < 9223372036854775808) :
    Calls Try.prog 88 #[.slice a bs.length c, .agg #[.int .i64 t, .int .i64 s]] w (fun e w' => ∃ a' c', e = .returned (.slice a' (bs ++ stampL t s).length c') ∧ OwnB w.heap.size w' a' c' (bs ++ stampL t s) ∧ Ext no w w') := by
  refine (stamp_Put.go _ _ _ _ _ (R := fun v w' => ∃ a' c', v = (.slice a' (bs ++ stampL t s).length c') ∧ OwnB w.heap.size w' a' c' (bs ++ stampL t s) ∧ Ext no w w') ?_).mono fun e w' ⟨v, he, a, c, hv, hw⟩ => ⟨a, c, by rw [he, hv], hw⟩
  unfold stamp_Put.N
  intro w5 p6 hx5 hp
  refine (W.Int_spec (h.no hx5) (by omega) h0 h1).mono fun e w9 ⟨a9, c9, he, hO, hx9⟩ => ⟨a9, _, c9, he, hx9.kept, ?_⟩
  have e1 : IntKind.u64.wrap (if (0 : Int) > s then 0 else s) = ((s.toNat : Nat) : Int) := by split <;> rw [wu64 (by omega) (by omega)] <;> omega
  rw [e1]
  have hz := W.numL_le (zig t)
  refine (W.Num_spec hO.row (by rw [List.length_append]; omega) (n := s.toNat) (by omega)).mono fun e w12 ⟨a12, c12, he, hO2, hx12⟩ => ⟨a12, _, c12, he, a12, c12, ?_, ?_, (hx5.trans hx9).trans hx12⟩
  · unfold stampL; rw [List.append_assoc]
  · unfold stampL; rw [← List.append_assoc]; exact OwnB.up hO2 (Nat.le_trans hx5.size hx9.size)
theorem nums_spec {q : Nat} (hq : Blk w q 146 [.slice a bs.length c]) (h : RowAt w a (bytesV bs)) (ho : ∀ ad, a = some ad → ad.block ≠ q) {la : Option Addr} {lc : Nat} {xs : List Nat} (hx : RowAt w la (xs.map fun (n : Nat) => Value.int .u64 (n : Int))) (hla : ∀ ad, la = some ad → ad.block ≠ q)
    (hxs : ∀ n ∈ xs, n < 18446744073709551616) (hl : bs.length + xs.length * 10 ≤ 900000) :
    Calls Try.prog 86 #[.pointer (some (blk q)), .slice la xs.length lc] w (fun e w' => e = .returned (.tuple #[]) ∧ ∃ a' c', Blk w' q 146 [.slice a' (bs ++ xs.flatMap numL).length c'] ∧ RowAt w' a' (bytesV (bs ++ xs.flatMap numL)) ∧ (∀ ad, a' = some ad → ad.block ≠ q ∧ (a' = a ∨ w.heap.size ≤ ad.block)) ∧ Ext (fun b => b = q) w w') := by
  refine (entry_writer_nums.go _ _ _ _ (R := fun v w' => v = .tuple #[] ∧ ∃ a' c', Blk w' q 146 [.slice a' (bs ++ xs.flatMap numL).length c'] ∧ RowAt w' a' (bytesV (bs ++ xs.flatMap numL)) ∧ (∀ ad, a' = some ad → ad.block ≠ q ∧ (a' = a ∨ w.heap.size ≤ ad.block)) ∧ Ext (fun b => b = q) w w') ?_).mono fun e w' ⟨v, he, hv, hw⟩ => ⟨by rw [he, hv], hw⟩
  unfold entry_writer_nums.N
  refine ⟨fun k vs w1 => ∃ (t : Nat) (a1 : Option Addr) (c1 : Nat) (l1 : List UInt8), vs = [.int .i64 t] ∧ k + t = xs.length ∧ l1 = bs ++ (xs.take t).flatMap numL ∧ l1.length ≤ bs.length + t * 10 ∧ Blk w1 q 146 [.slice a1 l1.length c1] ∧ RowAt w1 a1 (bytesV l1) ∧ (∀ ad, a1 = some ad → ad.block ≠ q ∧ (a1 = a ∨ w.heap.size ≤ ad.block)) ∧ Ext (fun b => b = q) w w1, xs.length,
    ⟨0, a, c, bs, rfl, rfl, by simp, by omega, hq, h, fun ad ha => ⟨ho ad ha, .inl rfl⟩, Ext.refl _ _⟩, ?_⟩
  rintro k w1 i ⟨t, a1, c1, l1, hi, hk, hl1, hlen, hb, hr, hf, X⟩
  simp only [List.cons.injEq, Value.int.injEq, true_and, and_true] at hi
  subst hi
  refine ⟨fun ht => ?_, fun ht => ?_⟩
  · have htl : t < xs.length := by omega
    have hx1 := hx.ext' X fun _ ad ha => hla ad ha
    obtain ⟨ad, rfl⟩ := hx1.addr (by intro e; rw [List.map_eq_nil_iff] at e; subst e; simp at htl)
    have hnb := hxs xs[t] (List.getElem_mem htl)
    refine ⟨ad, rfl, by omega, by omega, xs[t], by rw [Int.toNat_natCast, Nat.mul_one]; exact hx1.at_ (by simp [htl]), blk q, rfl, a1, _, c1, hb.cella (i := 0) rfl, ?_⟩
    refine (W.Num_spec hr (by omega) hnb).mono fun e w16 ⟨a2, c2, he, hO, hx16⟩ => ⟨a2, _, c2, he, (hb.ext hx16 id).cana (i := 0) rfl, thenW_in fun w18 e18 => ?_⟩
    have hb18 := (hb.ext hx16 id).seti 0 rfl e18
    have x18 : Ext (fun b => b = q) w16 w18 := (Ext.refl (fun b => b = q) w16).x_set (q := q) (i := 0) rfl (.inl rfl) e18
    have hne : ∀ ad, a2 = some ad → ad.block ≠ q := fun ad ha e => by have := (hO.fr ad ha).1; have := hb.lt; omega
    have htk : xs.take (t + 1) = xs.take t ++ [xs[t]] := by rw [List.take_add_one]; simp [htl]
    have hnl := W.numL_le xs[t]
    refine ⟨by omega, by omega, k - 1, by omega, t + 1, a2, c2, l1 ++ numL xs[t], rfl, by omega, ?_, by rw [List.length_append]; omega, hb18, hO.row.ext' x18 fun _ ad ha => hne ad ha, fun ad ha => ⟨hne ad ha, .inr (Nat.le_trans X.size (hO.fr ad ha).1)⟩, (X.trans hx16.none).trans x18⟩
    rw [hl1, htk, List.flatMap_append, List.append_assoc]; simp
  · obtain rfl : t = xs.length := by omega
    rw [List.take_length] at hl1
    subst hl1
    exact ⟨rfl, a1, c1, hb, hr, hf, X⟩
theorem text_spec {e : Ent} (hr : entRight e = true) (hf : e.fit) {ba : Option Addr} {bc : Nat} (hb : RowAt w ba (bytesV e.body)) :
    Calls Try.prog 78 #[entV e ba bc] w (fun x w' => ∃ a' c', x = .returned (.slice a' (textL e).length c') ∧ OwnB w.heap.size w' a' c' (textL e) ∧ Ext no w w') := by
  obtain ⟨h1, h2, h3, h4, h5, h6, h7, h8, h9, h10, h11⟩ := (entRight_iff e).1 hr
  have f1 := hf.pv0; have f2 := hf.pv1
  refine (entry_text.go e.w e.i e.pv e.t e.tw e.ep ba e.body.length bc e.sg (R := fun v w' => ∃ a' c', v = (.slice a' (textL e).length c') ∧ OwnB w.heap.size w' a' c' (textL e) ∧ Ext no w w') ?_).mono fun x w' ⟨v, he, a, c, hv, hw⟩ => ⟨a, c, by rw [he, hv], hw⟩
  unfold entry_text.N
  intro w10 q p X10 hq hq1 hq2 hp w13 q2 X13 hq3 hq4 hq5
  rw [wu64 (n := e.w) h1 (by omega), wu64 (n := e.i) h3 (by omega)] at hq3
  have hrow : RowAt w13 (some (blk q2)) (([e.w.toNat, e.i.toNat, e.pv.toNat] : List Nat).map fun (n : Nat) => Value.int .u64 (n : Int)) := by
    have := RowAt.of_blk hq3
    simp only [List.map_cons, List.map_nil, Int.toNat_of_nonneg h1, Int.toNat_of_nonneg h3, Int.toNat_of_nonneg f1]
    exact this
  have hp1 := hp.one
  refine (nums_spec (bs := []) (q := q) (hq.ext X13 id) (RowAt.nil _ _) (fun ad ha => by cases ha) hrow (fun ad ha => by cases ha; simp only [blk]; omega) (by simp; omega) (by simp)).mono fun x w16 ⟨he, a1, c1, hb1, hr1, hf1, X16⟩ => ?_
  have hw16 : Ext no w w16 := (X10.trans X13).then X16 fun b hb => .inr (by omega)
  have hpq : p ≠ q := by omega
  have e1 : ([] ++ [e.w.toNat, e.i.toNat, e.pv.toNat].flatMap numL) = numL e.w.toNat ++ numL e.i.toNat ++ numL e.pv.toNat := by simp
  rw [e1] at hr1 hb1
  refine ⟨he, keep1 X16 hpq, a1, _, c1, hb1.cell (i := 0) rfl, fun w17 X17 => ?_⟩
  have g1 := W.numL_le e.w.toNat; have g2 := W.numL_le e.i.toNat; have g3 := W.numL_le e.pv.toNat; have g4 := stampL_le e.t e.tw; have g5 := W.numL_le (zig e.ep)
  have h17 := hw16.trans X17
  refine (Put_spec (hr1.no X17) (by simp only [List.length_append]; omega) (by omega) (by omega) (by omega)).mono fun x w22 ⟨a2, c2, he, hO2, X22⟩ => ⟨a2, _, c2, he, X22.kept, ?_⟩
  refine (W.Int_spec hO2.row (by simp only [List.length_append]; omega) (by omega) (by omega)).mono fun x w25 ⟨a3, c3, he, hO3, X25⟩ => ⟨a3, _, c3, he, X25.kept, ?_⟩
  have h25 := (h17.trans X22).trans X25
  refine (W.Bytes_spec hO3.row (by simp only [List.length_append]; omega) (hb.no h25) (by omega)).mono fun x w28 ⟨a4, c4, he, hO4, X28⟩ => ⟨a4, _, c4, he, a4, c4, ?_, ?_, h25.trans X28⟩
  · unfold textL; simp only [List.append_assoc]
  · unfold textL; rw [← List.append_assoc]; exact OwnB.up hO4 h25.size
theorem Text_spec {e : Ent} (hf : entRight e = true → e.fit) {ba : Option Addr} {bc : Nat} (hb : RowAt w ba (bytesV e.body)) :
    Calls Try.prog 60 #[entV e ba bc] w (fun x w' => Ext no w w' ∧ ((entRight e = false ∧ x = .returned (.tuple #[.slice none 0 0, .int .i64 1])) ∨ (entRight e = true ∧ ∃ a' c', x = .returned (.tuple #[.slice a' (textL e).length c', .int .i64 0]) ∧ OwnB w.heap.size w' a' c' (textL e)))) := by
  refine (entry_Text.go e.w e.i e.pv e.t e.tw e.ep ba e.body.length bc e.sg (R := fun v w' => Ext no w w' ∧ ((entRight e = false ∧ v = (.tuple #[.slice none 0 0, .int .i64 1])) ∨ (entRight e = true ∧ ∃ a' c', v = (.tuple #[.slice a' (textL e).length c', .int .i64 0]) ∧ OwnB w.heap.size w' a' c' (textL e)))) ?_).mono fun x w' ⟨v, he, hx, hv⟩ => ⟨hx, hv.imp (fun ⟨h1, h2⟩ => ⟨h1, by rw [he, h2]⟩) fun ⟨h1, a, c, h2, h3⟩ => ⟨h1, a, c, by rw [he, h2], h3⟩⟩
  unfold entry_Text.N
  rw [entRight_F]
  refine ⟨fun h w10 X => ⟨X, .inl ⟨h, rfl⟩⟩, fun h w10 X => ?_⟩
  exact (text_spec h (hf h) (hb.no X)).mono fun x w16 ⟨a1, c1, he, hO, X16⟩ => ⟨a1, _, c1, he, X.trans X16, .inr ⟨h, a1, c1, rfl, OwnB.up hO X.size⟩⟩
/-! ### reading -/
end
end Go.Proofs.Ytfmdpjhkojbocaa

/- Entries that are the same; EntryBack. -/
set_option linter.unusedVariables false
set_option linter.unusedSimpArgs false
set_option maxRecDepth 20000
namespace Go.Proofs.Ytfmdpjhkojbocaa
open Go Go.Mx Go.Proofs
open W (OwnB GivesW numR countR doneR zig unzig intR)
/-- bytes of a literal. -/
theorem litB {w w1 : World} {t e : TypeId} (hs : Try.prog.underlying t = some (.slice e)) (he : Try.prog.underlying e = some (.int .u8)) (bs : List UInt8) {q : Nat} (X : Ext no w w1) (hb : Blk w1 q e (bytesV bs)) (hq : w.heap.size ≤ q) :
    ∃ w2, (convert t t (.slice (some (blk q)) bs.length bs.length)).run Try.prog w1 = .ok (.slice (some (blk q)) bs.length bs.length) w2 ∧ RowAt w2 (some (blk q)) (bytesV bs) ∧ Ext no w w2 :=
  ⟨_, conv_mark hs he hb, (RowAt.of_blk hb).freeze _ _, X.freeze (.inr hq) _⟩
section
variable {w w' : World} {a : Option Addr} {c N p : Nat} {bs : List UInt8} {k : Int}
theorem Equal_spec {b : Option Addr} {d : Nat} {x y : List UInt8} (ha : RowAt w a (bytesV x)) (hb : RowAt w b (bytesV y)) :
    Calls Try.prog 69 #[.slice a x.length c, .slice b y.length d] w (Ret (.bool (decide (x = y))) fun w' => w' = w) := by
  refine bytes_Equal.run _ _ _ _ _ _ ?_
  unfold bytes_Equal.N
  refine ⟨_, conv_str Try.underlying23 Try.underlying5 Try.underlying9 ha, _, conv_str Try.underlying23 Try.underlying5 Try.underlying9 hb, ?_, rfl⟩
  have key := bytes_beq x y
  have e : ∀ s : List UInt8, (ByteArray.mk s.toArray).toList = s := fun s => by
    simp
  congr 1
  rw [e, e, Bool.eq_iff_iff]
  simp
theorem ESame_spec {e f : Ent} {b : Option Addr} {d : Nat} (ha : RowAt w a (bytesV e.body)) (hb : RowAt w b (bytesV f.body)) :
    Calls Try.prog 38 #[entV e a c, entV f b d] w (Ret (.bool (decide (e = f))) fun w' => Ext no w w') := by
  refine entry_Same.run _ _ _ _ _ _ _ _ _ _ _ _ _ _ _ _ _ _ _ _ ?_
  unfold entry_Same.N
  intro w19 p20 p21 X hp
  refine (Equal_spec (ha.no X) (hb.no X)).mono fun x w24 ⟨he, hw⟩ => ⟨_, he, by subst hw; exact Keep.refl _ _, ?_⟩
  subst hw
  obtain ⟨e1, e2, e3, e4, e5, e6, e7, e8⟩ := e
  obtain ⟨f1, f2, f3, f4, f5, f6, f7, f8⟩ := f
  simp only [Ent.mk.injEq]
  refine ⟨fun h => ?_, fun h => ?_⟩
  · have h := of_decide_eq_true h
    subst h
    refine ⟨fun c1 => ⟨fun c2 => ⟨fun c3 => ⟨fun c4 => ⟨fun c5 => ?_, fun c5 => ?_⟩, fun c4 => ?_⟩, fun c3 => ?_⟩, fun c2 => ?_⟩, fun c1 => ?_⟩ <;> refine ⟨?_, X⟩
    · congr 1; rw [Bool.eq_iff_iff, beq_iff_eq, decide_eq_true_eq]; exact ⟨fun h => ⟨c1, c2, c3, c4.1, c4.2, c5, rfl, h⟩, fun h => h.2.2.2.2.2.2.2⟩
    · rw [decide_eq_false fun h => c5 h.2.2.2.2.2.1]
    · rw [decide_eq_false fun h => c4 ⟨h.2.2.2.1, h.2.2.2.2.1⟩]
    · rw [decide_eq_false fun h => c3 h.2.2.1]
    · rw [decide_eq_false fun h => c2 h.2.1]
    · rw [decide_eq_false fun h => c1 h.1]
  · have h := of_decide_eq_false h
    exact ⟨by rw [decide_eq_false fun q => h q.2.2.2.2.2.2.1], X⟩
end
end Go.Proofs.Ytfmdpjhkojbocaa

/- Entries: the reference's bytes, and its entry of bytes. -/
set_option linter.unusedVariables false
set_option linter.unusedSimpArgs false
set_option maxRecDepth 20000
namespace Go.Proofs.Ytfmdpjhkojbocaa
open Go Go.Mx Go.Proofs
open W (OwnB GivesW numR countR doneR zig unzig intR)
/-- cachetteref06.Same -/
def cachetteref06_Same.M (af : Int) (av : Int) (b4 : Int) (b6 : Int) (b7 : Int) (ap : Int) (ao : Option Addr) (aq : Nat) (au : Nat) (b8 : Int) (aj : Int) (ai : Int) (ar : Int) (b2 : Int) (b3 : Int) (ah : Int) (ae : Option Addr) (ag : Nat) (am : Nat) (b5 : Int) (R : Value → World → Prop) (w : World) : Prop :=
 thenW (w.alloc (.cells #[.int .i64 af, .int .i64 av, .int .u64 b4, .int .i64 b6, .int .i64 b7, .int .i64 ap, .slice ao aq au, .int .u64 b8] 29)) fun a3 =>
 thenW (a3.alloc (.cells #[.int .i64 aj, .int .i64 ai, .int .u64 ar, .int .i64 b2, .int .i64 b3, .int .i64 ah, .slice ae ag am, .int .u64 b5] 29)) fun a0 =>
 ∃ (a1 : Int), a0.cell? ((blk w.heap.size).add 0) = some (.int .i64 a1) ∧
 ∃ (a2 : Int), a0.cell? ((blk a3.heap.size).add 0) = some (.int .i64 a2) ∧
 bif a1 == a2 then (
 ∃ (a7 : Int), a0.cell? ((blk w.heap.size).add 1) = some (.int .i64 a7) ∧
 ∃ (a4 : Int), a0.cell? ((blk a3.heap.size).add 1) = some (.int .i64 a4) ∧
 bif a7 == a4 then (
 ∃ (an : Int), a0.cell? ((blk w.heap.size).add 2) = some (.int .u64 an) ∧
 ∃ (al : Int), a0.cell? ((blk a3.heap.size).add 2) = some (.int .u64 al) ∧
 bif an == al then (
 ∃ (az : Int) (b0 : Int), cellsAt a0 ((blk w.heap.size).add 3) [.int .i64 az, .int .i64 b0] 0 ∧
 ∃ (aw : Int) (b1 : Int), cellsAt a0 ((blk a3.heap.size).add 3) [.int .i64 aw, .int .i64 b1] 0 ∧
 ∃ (bb : Bool), (binOp .eql 27 (.agg #[.int .i64 az, .int .i64 b0]) (.agg #[.int .i64 aw, .int .i64 b1])).run Try.prog a0 = .ok (.bool bb) a0 ∧
 bif bb then (
 ∃ (a5 : Int), a0.cell? ((blk w.heap.size).add 5) = some (.int .i64 a5) ∧
 ∃ (ab : Int), a0.cell? ((blk a3.heap.size).add 5) = some (.int .i64 ab) ∧
 bif a5 == ab then (
 ∃ (ay : Int), a0.cell? ((blk w.heap.size).add 7) = some (.int .u64 ay) ∧
 ∃ (ax : Int), a0.cell? ((blk a3.heap.size).add 7) = some (.int .u64 ax) ∧
 bif ay == ax then (
 ∃ (ad : Option Addr) (ac : Nat) (a6 : Nat), a0.cell? ((blk w.heap.size).add 6) = some (.slice ad ac a6) ∧
 ∃ (aa : Option Addr) (a9 : Nat) (a8 : Nat), a0.cell? ((blk a3.heap.size).add 6) = some (.slice aa a9 a8) ∧
 Calls Try.prog 13 #[.slice ad ac a6, .slice aa a9 a8] a0 fun b9 ba => ∃ (ak : Bool), b9 = .returned (.bool ak) ∧
 R (.bool ak) ba) else (
 R (.bool false) a0)) else (
 R (.bool false) a0)) else (
 R (.bool false) a0)) else (
 R (.bool false) a0)) else (
 R (.bool false) a0)) else (
 R (.bool false) a0)

theorem cachetteref06_Same.eq (aWriter1 : Int) (aIndex2 : Int) (aPrev3 : Int) (aAtT4 : Int) (aAtW5 : Int) (aEpoch6 : Int) (aBody7a : Option Addr) (aBody7n : Nat) (aBody7c : Nat) (aSig8 : Int) (bWriter9 : Int) (bIndex10 : Int) (bPrev11 : Int) (bAtT12 : Int) (bAtW13 : Int) (bEpoch14 : Int) (bBody15a : Option Addr) (bBody15n : Nat) (bBody15c : Nat) (bSig16 : Int) (R : Value → World → Prop) (w : World) : mfunc Try.prog [] 46 [.agg #[.int .i64 aWriter1, .int .i64 aIndex2, .int .u64 aPrev3, .int .i64 aAtT4, .int .i64 aAtW5, .int .i64 aEpoch6, .slice aBody7a aBody7n aBody7c, .int .u64 aSig8], .agg #[.int .i64 bWriter9, .int .i64 bIndex10, .int .u64 bPrev11, .int .i64 bAtT12, .int .i64 bAtW13, .int .i64 bEpoch14, .slice bBody15a bBody15n bBody15c, .int .u64 bSig16]] R w = cachetteref06_Same.M aWriter1 aIndex2 aPrev3 aAtT4 aAtW5 aEpoch6 aBody7a aBody7n aBody7c aSig8 bWriter9 bIndex10 bPrev11 bAtT12 bAtW13 bEpoch14 bBody15a bBody15n bBody15c bSig16 R w := by kernel_rfl
theorem cachetteref06_Same.ok (a1 : Int) (ac : Int) (af : Int) (ah : Int) (ai : Int) (a8 : Int) (a7 : Option Addr) (a9 : Nat) (ab : Nat) (aj : Int) (a5 : Int) (a4 : Int) (aa : Int) (ad : Int) (ae : Int) (a3 : Int) (a0 : Option Addr) (a2 : Nat) (a6 : Nat) (ag : Int) {R : Value → World → Prop} {w : World} (h : cachetteref06_Same.M a1 ac af ah ai a8 a7 a9 ab aj a5 a4 aa ad ae a3 a0 a2 a6 ag R w) : Calls Try.prog 46 #[.agg #[.int .i64 a1, .int .i64 ac, .int .u64 af, .int .i64 ah, .int .i64 ai, .int .i64 a8, .slice a7 a9 ab, .int .u64 aj], .agg #[.int .i64 a5, .int .i64 a4, .int .u64 aa, .int .i64 ad, .int .i64 ae, .int .i64 a3, .slice a0 a2 a6, .int .u64 ag]] w fun e w' => ∃ v, e = .returned v ∧ R v w' :=
  mfunc_ok follows (H := []) (args := [.agg #[.int .i64 a1, .int .i64 ac, .int .u64 af, .int .i64 ah, .int .i64 ai, .int .i64 a8, .slice a7 a9 ab, .int .u64 aj], .agg #[.int .i64 a5, .int .i64 a4, .int .u64 aa, .int .i64 ad, .int .i64 ae, .int .i64 a3, .slice a0 a2 a6, .int .u64 ag]]) (by rw [cachetteref06_Same.eq]; exact h)

def cachetteref06_Same.N (a1 : Int) (a7 : Int) (ad : Int) (aj : Int) (ak : Int) (a5 : Int) (ag : Option Addr) (ah : Nat) (ai : Nat) (al : Int) (a4 : Int) (a3 : Int) (a6 : Int) (ab : Int) (ac : Int) (a2 : Int) (a8 : Option Addr) (a9 : Nat) (af : Nat) (ae : Int) (R : Value → World → Prop) (w : World) : Prop :=
 (a1 = a4 →
 (a7 = a3 →
 (ad = a6 →
 (aj = ab ∧ ak = ac →
 (a5 = a2 →
 (al = ae →
 ∀ (a0 : World), Ext no w a0 →
 Calls Try.prog 13 #[.slice ag ah ai, .slice a8 a9 af] a0 fun an am => ∃ (aa : Bool), an = .returned (.bool aa) ∧
 R (.bool aa) am) ∧
 (al ≠ ae →
 ∀ (a0 : World), Ext no w a0 →
 R (.bool false) a0)) ∧
 (a5 ≠ a2 →
 ∀ (a0 : World), Ext no w a0 →
 R (.bool false) a0)) ∧
 (¬ (aj = ab ∧ ak = ac) →
 ∀ (a0 : World), Ext no w a0 →
 R (.bool false) a0)) ∧
 (ad ≠ a6 →
 ∀ (a0 : World), Ext no w a0 →
 R (.bool false) a0)) ∧
 (a7 ≠ a3 →
 ∀ (a0 : World), Ext no w a0 →
 R (.bool false) a0)) ∧
 (a1 ≠ a4 →
 ∀ (a0 : World), Ext no w a0 →
 R (.bool false) a0)

theorem cachetteref06_Same.up (a1 : Int) (ae : Int) (ag : Int) (aj : Int) (ak : Int) (a8 : Int) (a7 : Option Addr) (a9 : Nat) (ad : Nat) (am : Int) (a5 : Int) (a4 : Int) (aa : Int) (ab : Int) (ac : Int) (a3 : Int) (a0 : Option Addr) (a2 : Nat) (a6 : Nat) (ah : Int) {R : Value → World → Prop} {w : World} (h : cachetteref06_Same.N a1 ae ag aj ak a8 a7 a9 ad am a5 a4 aa ab ac a3 a0 a2 a6 ah R w) : cachetteref06_Same.M a1 ae ag aj ak a8 a7 a9 ad am a5 a4 aa ab ac a3 a0 a2 a6 ah R w := by
  unfold cachetteref06_Same.M
  unfold cachetteref06_Same.N at h
  refine thenW_in fun b2 az => ?_
  have al := Blk.of_new az
  have b4 := ((Ext.refl no w)).size
  have ap := (Ext.refl no w).x_alloc az
  refine thenW_in fun ai av => ?_
  have an := Blk.of_new av
  have b5 := (ap).size
  have b0 := Nat.ne_of_lt al.lt
  have al := al.x_alloc av
  have af := ap.x_alloc av
  refine ⟨a1, al.celli 0 rfl rfl, ?_⟩
  refine ⟨a5, an.celli 0 rfl rfl, ?_⟩
  refine bif_of (fun au => ?_) (fun au => ?_)
  · have h := h.1 (beq_t au)
    refine ⟨ae, al.celli 1 rfl rfl, ?_⟩
    refine ⟨a4, an.celli 1 rfl rfl, ?_⟩
    refine bif_of (fun aw => ?_) (fun aw => ?_)
    · have h := h.1 (beq_t aw)
      refine ⟨ag, al.celli 2 rfl rfl, ?_⟩
      refine ⟨aa, an.celli 2 rfl rfl, ?_⟩
      refine bif_of (fun aq => ?_) (fun aq => ?_)
      · have h := h.1 (beq_t aq)
        refine ⟨aj, ak, ⟨al.celli 3 rfl rfl, al.celli 4 rfl rfl, trivial⟩, ?_⟩
        refine ⟨ab, ac, ⟨an.celli 3 rfl rfl, an.celli 4 rfl rfl, trivial⟩, ?_⟩
        refine ⟨_, eqT27_eq aj ak ab ac _, ?_⟩
        refine bif_of (fun ar => ?_) (fun ar => ?_)
        · have h := h.1 (of_decide_eq_true ar)
          refine ⟨a8, al.celli 5 rfl rfl, ?_⟩
          refine ⟨a3, an.celli 5 rfl rfl, ?_⟩
          refine bif_of (fun ax => ?_) (fun ax => ?_)
          · have h := h.1 (beq_t ax)
            refine ⟨am, al.celli 7 rfl rfl, ?_⟩
            refine ⟨ah, an.celli 7 rfl rfl, ?_⟩
            refine bif_of (fun ay => ?_) (fun ay => ?_)
            · have h := h.1 (beq_t ay)
              refine ⟨a7, a9, ad, al.celli 6 rfl rfl, ?_⟩
              refine ⟨a0, a2, a6, an.celli 6 rfl rfl, ?_⟩
              have h := h ai af
              refine h.mono fun b3 b1 h => ?_
              obtain ⟨ao, he, h⟩ := h
              refine ⟨ao, he, ?_⟩
              exact h
            · have h := h.2 (beq_f ay)
              have h := h ai af
              exact h
          · have h := h.2 (beq_f ax)
            have h := h ai af
            exact h
        · have h := h.2 (of_decide_eq_false ar)
          have h := h ai af
          exact h
      · have h := h.2 (beq_f aq)
        have h := h ai af
        exact h
    · have h := h.2 (beq_f aw)
      have h := h ai af
      exact h
  · have h := h.2 (beq_f au)
    have h := h ai af
    exact h

theorem cachetteref06_Same.go (a1 : Int) (ac : Int) (af : Int) (ah : Int) (ai : Int) (a8 : Int) (a7 : Option Addr) (a9 : Nat) (ab : Nat) (aj : Int) (a5 : Int) (a4 : Int) (aa : Int) (ad : Int) (ae : Int) (a3 : Int) (a0 : Option Addr) (a2 : Nat) (a6 : Nat) (ag : Int) {R : Value → World → Prop} {w : World} (h : cachetteref06_Same.N a1 ac af ah ai a8 a7 a9 ab aj a5 a4 aa ad ae a3 a0 a2 a6 ag R w) : Calls Try.prog 46 #[.agg #[.int .i64 a1, .int .i64 ac, .int .u64 af, .int .i64 ah, .int .i64 ai, .int .i64 a8, .slice a7 a9 ab, .int .u64 aj], .agg #[.int .i64 a5, .int .i64 a4, .int .u64 aa, .int .i64 ad, .int .i64 ae, .int .i64 a3, .slice a0 a2 a6, .int .u64 ag]] w fun e w' => ∃ v, e = .returned v ∧ R v w' := cachetteref06_Same.ok a1 ac af ah ai a8 a7 a9 ab aj a5 a4 aa ad ae a3 a0 a2 a6 ag (cachetteref06_Same.up a1 ac af ah ai a8 a7 a9 ab aj a5 a4 aa ad ae a3 a0 a2 a6 ag h)
theorem cachetteref06_Same.run (a1 : Int) (ac : Int) (af : Int) (ah : Int) (ai : Int) (a8 : Int) (a7 : Option Addr) (a9 : Nat) (ab : Nat) (aj : Int) (a5 : Int) (a4 : Int) (aa : Int) (ad : Int) (ae : Int) (a3 : Int) (a0 : Option Addr) (a2 : Nat) (a6 : Nat) (ag : Int) {V : Value} {Q : World → Prop} {w : World} (h : cachetteref06_Same.N a1 ac af ah ai a8 a7 a9 ab aj a5 a4 aa ad ae a3 a0 a2 a6 ag (fun v w' => v = V ∧ Q w') w) : Calls Try.prog 46 #[.agg #[.int .i64 a1, .int .i64 ac, .int .u64 af, .int .i64 ah, .int .i64 ai, .int .i64 a8, .slice a7 a9 ab, .int .u64 aj], .agg #[.int .i64 a5, .int .i64 a4, .int .u64 aa, .int .i64 ad, .int .i64 ae, .int .i64 a3, .slice a0 a2 a6, .int .u64 ag]] w (Ret V Q) := (cachetteref06_Same.go a1 ac af ah ai a8 a7 a9 ab aj a5 a4 aa ad ae a3 a0 a2 a6 ag h).mono fun e w' ⟨v, he, hv, hq⟩ => ⟨by rw [he, hv], hq⟩

section
variable {w w' : World} {a : Option Addr} {c N p : Nat} {bs : List UInt8} {k : Int}
theorem rESame_spec {e f : Ent} {b : Option Addr} {d : Nat} (ha : RowAt w a (bytesV e.body)) (hb : RowAt w b (bytesV f.body)) (hl : e.body.length < 1000000) :
    Calls Try.prog 46 #[entV e a c, entV f b d] w (Ret (.bool (decide (e = f))) fun w' => Ext no w w') := by
  refine cachetteref06_Same.run _ _ _ _ _ _ _ _ _ _ _ _ _ _ _ _ _ _ _ _ ?_
  unfold cachetteref06_Same.N
  obtain ⟨e1, e2, e3, e4, e5, e6, e7, e8⟩ := e
  obtain ⟨f1, f2, f3, f4, f5, f6, f7, f8⟩ := f
  simp only [Ent.mk.injEq]
  refine ⟨fun c1 => ⟨fun c2 => ⟨fun c3 => ⟨fun c4 => ⟨fun c5 => ⟨fun c6 w18 X => ?_, fun c6 w18 X => ⟨?_, X⟩⟩, fun c5 w18 X => ⟨?_, X⟩⟩, fun c4 w18 X => ⟨?_, X⟩⟩, fun c3 w18 X => ⟨?_, X⟩⟩, fun c2 w18 X => ⟨?_, X⟩⟩, fun c1 w18 X => ⟨?_, X⟩⟩
  · refine (W.sameB_spec (ha.no X) (hb.no X) hl).mono fun x w31 ⟨he, X31⟩ => ⟨_, he, ?_, X.trans X31⟩
    congr 1; rw [Bool.eq_iff_iff, decide_eq_true_eq, decide_eq_true_eq]; exact ⟨fun h => ⟨c1, c2, c3, c4.1, c4.2, c5, h, c6⟩, fun h => h.2.2.2.2.2.2.1⟩
  · rw [decide_eq_false fun h => c6 h.2.2.2.2.2.2.2]
  · rw [decide_eq_false fun h => c5 h.2.2.2.2.2.1]
  · rw [decide_eq_false fun h => c4 ⟨h.2.2.2.1, h.2.2.2.2.1⟩]
  · rw [decide_eq_false fun h => c3 h.2.2.1]
  · rw [decide_eq_false fun h => c2 h.2.1]
  · rw [decide_eq_false fun h => c1 h.1]
end
end Go.Proofs.Ytfmdpjhkojbocaa

/- An entry that is handed in. -/
set_option linter.unusedVariables false
set_option linter.unusedSimpArgs false
set_option maxRecDepth 20000
namespace Go.Proofs.Ytfmdpjhkojbocaa
open Go Go.Mx Go.Proofs
/-- numbers that are of their kinds. -/
structure Ent.wide (e : Ent) : Prop where
  w : -9223372036854775808 ≤ e.w ∧ e.w < 9223372036854775808
  i : -9223372036854775808 ≤ e.i ∧ e.i < 9223372036854775808
  t : -9223372036854775808 ≤ e.t ∧ e.t < 9223372036854775808
  tw : -9223372036854775808 ≤ e.tw ∧ e.tw < 9223372036854775808
  ep : -9223372036854775808 ≤ e.ep ∧ e.ep < 9223372036854775808
def EntQ (W : World) (cs : List Value) : Prop := ∃ (e : Ent) (a : Option Addr) (c : Nat), cs = entC e a c ∧ e.fit ∧ e.wide ∧ e.body.length ≤ c ∧ c ≤ maxLen ∧ RowAt W a (bytesV e.body)
theorem list8 {α : Type} : ∀ {l : List α}, l.length = 8 → ∃ a b c d e f g h, l = [a, b, c, d, e, f, g, h]
  | [a, b, c, d, e, f, g, h], _ => ⟨a, b, c, d, e, f, g, h, rfl⟩
theorem cellsOf_entry : Try.prog.cellsOf 29 = 8 := by kernel_rfl
theorem cellsOf_stamp : Try.prog.cellsOf 27 = 2 := by kernel_rfl
theorem opens_entry : Opens Try.prog 29 EntQ := (opens_struct Try.underlying29 cellsOf_entry).mono fun W cs ⟨hl, hf⟩ => by
  obtain ⟨c0, c1, c2, c3, c4, c5, c6, c7, rfl⟩ := list8 hl
  have e0 : ∃ n, (([c0, c1, c2, c3, c4, c5, c6, c7] : List Value).drop 0).take (Try.prog.cellsOf 3) = [.int .i64 n] ∧ _ := hf 0 _ rfl _ (opens_int Try.underlying3)
  have e1 : ∃ n, (([c0, c1, c2, c3, c4, c5, c6, c7] : List Value).drop 1).take (Try.prog.cellsOf 3) = [.int .i64 n] ∧ _ := hf 1 _ rfl _ (opens_int Try.underlying3)
  have e2 : ∃ n, (([c0, c1, c2, c3, c4, c5, c6, c7] : List Value).drop 2).take (Try.prog.cellsOf 25) = [.int .u64 n] ∧ _ := hf 2 _ rfl _ (opens_int Try.underlying25)
  have e3 := hf 3 _ rfl _ (opens_struct Try.underlying27 cellsOf_stamp)
  change (((([c0, c1, c2, c3, c4, c5, c6, c7] : List Value).drop 3).take (Try.prog.cellsOf 27)).length = 2 ∧ _) at e3
  have e4 : ∃ n, (([c0, c1, c2, c3, c4, c5, c6, c7] : List Value).drop 5).take (Try.prog.cellsOf 3) = [.int .i64 n] ∧ _ := hf 4 _ rfl _ (opens_int Try.underlying3)
  have e5 : BytesQ W ((([c0, c1, c2, c3, c4, c5, c6, c7] : List Value).drop 6).take (Try.prog.cellsOf 23)) := hf 5 _ rfl _ (opens_bytes Try.underlying23 (by kernel_rfl) Try.underlying5)
  have e6 : ∃ n, (([c0, c1, c2, c3, c4, c5, c6, c7] : List Value).drop 7).take (Try.prog.cellsOf 25) = [.int .u64 n] ∧ _ := hf 6 _ rfl _ (opens_int Try.underlying25)
  have o1 : Try.prog.cellsOf 3 = 1 := by kernel_rfl
  have o2 : Try.prog.cellsOf 25 = 1 := by kernel_rfl
  have o3 : Try.prog.cellsOf 23 = 1 := by kernel_rfl
  have o4 : Try.prog.cellsOf 2 = 1 := by kernel_rfl
  simp only [o1, o2, o3, cellsOf_stamp, List.drop_zero, List.drop_succ_cons, List.take_succ_cons, List.take_zero] at e0 e1 e2 e4 e5 e6
  obtain ⟨_, hs⟩ := e3
  have s0 : ∃ n, ((((([c0, c1, c2, c3, c4, c5, c6, c7] : List Value).drop 3).take (Try.prog.cellsOf 27)).drop 0).take (Try.prog.cellsOf 2)) = [.int .i64 n] ∧ _ := hs 0 _ rfl _ (opens_int Try.underlying2)
  have s1 : ∃ n, ((((([c0, c1, c2, c3, c4, c5, c6, c7] : List Value).drop 3).take (Try.prog.cellsOf 27)).drop 1).take (Try.prog.cellsOf 3)) = [.int .i64 n] ∧ _ := hs 1 _ rfl _ (opens_int Try.underlying3)
  simp only [o1, o4, cellsOf_stamp, List.drop_zero, List.drop_succ_cons, List.take_succ_cons, List.take_zero] at s0 s1
  obtain ⟨n0, q0, w0⟩ := e0
  obtain ⟨n1, q1, w1⟩ := e1
  obtain ⟨n2, q2, w2⟩ := e2
  obtain ⟨n3, q3, w3⟩ := s0
  obtain ⟨n4, q4, w4⟩ := s1
  obtain ⟨n5, q5, w5⟩ := e4
  obtain ⟨a, c, bs, q6, l1, l2, r⟩ := e5
  obtain ⟨n7, q7, w7⟩ := e6
  simp only [List.cons.injEq, and_true] at q0 q1 q2 q3 q4 q5 q6 q7
  subst q0; subst q1; subst q2; subst q3; subst q4; subst q5; subst q6; subst q7
  exact ⟨⟨n0, n1, n2, n3, n4, n5, bs, n7⟩, a, c, rfl, ⟨(wf_u64 w2).1, (wf_u64 w2).2, (wf_u64 w7).1, (wf_u64 w7).2⟩, ⟨wf_i64 w0, wf_i64 w1, wf_i64 w3, wf_i64 w4, wf_i64 w5⟩, l1, l2, r⟩
end Go.Proofs.Ytfmdpjhkojbocaa

/- EntryForms: what the law's function answers. -/
set_option linter.unusedVariables false
set_option linter.unusedSimpArgs false
set_option maxRecDepth 20000
namespace Go.Proofs.Ytfmdpjhkojbocaa
open Go Go.Mx Go.Proofs
open W (OwnB GivesW numR countR doneR zig unzig intR)
def textK (e : Ent) : List UInt8 × Int := if entRight e = true then (textL e, 0) else ([], 1)
def Tup (w : World) (k : List UInt8 × Int) (x : Ending) (w' : World) : Prop := ∃ a' c', x = .returned (.tuple #[.slice a' k.1.length c', .int .i64 k.2]) ∧ OwnB w.heap.size w' a' c' k.1 ∧ Ext no w w'
section
variable {w w' : World} {a : Option Addr} {c N p : Nat} {bs : List UInt8} {k : Int}
theorem TextK_spec {e : Ent} (hf : entRight e = true → e.fit) {ba : Option Addr} {bc : Nat} (hb : RowAt w ba (bytesV e.body)) : Calls Try.prog 60 #[entV e ba bc] w (Tup w (textK e)) :=
  (Text_spec hf hb).mono fun x w' ⟨X, h⟩ => by
    unfold textK
    rcases h with ⟨h, he⟩ | ⟨h, a', c', he, hO⟩
    · rw [if_neg (by simp [h])]; exact ⟨none, 0, he, OwnB.nil _ _, X⟩
    · rw [if_pos h]; exact ⟨a', c', he, hO, X⟩
end
end Go.Proofs.Ytfmdpjhkojbocaa

/- Entries: sums, signatures, and whether they hold (the program's). -/
set_option linter.unusedVariables false
set_option linter.unusedSimpArgs false
set_option maxRecDepth 20000
namespace Go.Proofs.Ytfmdpjhkojbocaa
open Go Go.Mx Go.Proofs
open W (OwnB GivesW numR countR doneR zig unzig intR)
/-- bytes.Clone -/
def bytes_Clone.M (a0 : Option Addr) (a7 : Nat) (a6 : Nat) (R : Value → World → Prop) (w : World) : Prop :=
 bif Option.isNone a0 then (
 R (.slice none 0 0) w) else (
 thenW (w.alloc (.cells #[] 5)) fun a5 =>
 ∃ (a3 : Option Addr) (a2 : Nat) (a4 : Nat) (a1 : World), (Builtin.append_ #[23, 23] 23 #[.slice (some (blk w.heap.size)) 0 0, .slice a0 a7 a6]).run Try.prog a5 = .ok (.slice a3 a2 a4) a1 ∧
 R (.slice a3 a2 a4) a1)

theorem bytes_Clone.eq (b1a : Option Addr) (b1n : Nat) (b1c : Nat) (R : Value → World → Prop) (w : World) : mfunc Try.prog [] 61 [.slice b1a b1n b1c] R w = bytes_Clone.M b1a b1n b1c R w := by kernel_rfl
theorem bytes_Clone.ok (a0 : Option Addr) (a2 : Nat) (a1 : Nat) {R : Value → World → Prop} {w : World} (h : bytes_Clone.M a0 a2 a1 R w) : Calls Try.prog 61 #[.slice a0 a2 a1] w fun e w' => ∃ v, e = .returned v ∧ R v w' :=
  mfunc_ok follows (H := []) (args := [.slice a0 a2 a1]) (by rw [bytes_Clone.eq]; exact h)

def bytes_Clone.N (a1 : Option Addr) (a7 : Nat) (a6 : Nat) (R : Value → World → Prop) (w : World) : Prop :=
 (a1 = none →
 R (.slice none 0 0) w) ∧
 (a1 ≠ none →
 ∀ (a0 : World) (q4 : Nat), Ext no w a0 → Blk a0 q4 5 [] → w.heap.size ≤ q4 → q4 < a0.heap.size →
 ∃ (a5 : Option Addr) (a3 : Nat) (a4 : Nat) (a2 : World), (Builtin.append_ #[23, 23] 23 #[.slice (some (blk q4)) 0 0, .slice a1 a7 a6]).run Try.prog a0 = .ok (.slice a5 a3 a4) a2 ∧
 R (.slice a5 a3 a4) a2)

theorem bytes_Clone.up (a0 : Option Addr) (a2 : Nat) (a1 : Nat) {R : Value → World → Prop} {w : World} (h : bytes_Clone.N a0 a2 a1 R w) : bytes_Clone.M a0 a2 a1 R w := by
  unfold bytes_Clone.M
  unfold bytes_Clone.N at h
  refine bif_of (fun c2 => ?_) (fun c2 => ?_)
  · have h := h.1 (isNone_t c2)
    exact h
  · have h := h.2 (isNone_f c2)
    refine thenW_in fun a3 e3 => ?_
    have h := h a3 w.heap.size ((Ext.refl no w).x_alloc e3) (Blk.of_new e3) ((Ext.refl no w)).size (size_lt_alloc e3)
    obtain ⟨a7, a5, a6, a4, hr, h⟩ := h
    refine ⟨a7, a5, a6, a4, hr, ?_⟩
    exact h

theorem bytes_Clone.go (a0 : Option Addr) (a2 : Nat) (a1 : Nat) {R : Value → World → Prop} {w : World} (h : bytes_Clone.N a0 a2 a1 R w) : Calls Try.prog 61 #[.slice a0 a2 a1] w fun e w' => ∃ v, e = .returned v ∧ R v w' := bytes_Clone.ok a0 a2 a1 (bytes_Clone.up a0 a2 a1 h)
/-- entry.Sign -/
def entry_Sign.M (o1 : Option Addr) (bx : Int) (bs : Int) (bw : Int) (c3 : Int) (ck : Int) (cg : Int) (c0 : Int) (bz : Option Addr) (bv : Nat) (c1 : Nat) (c4 : Int) (R : Value → World → Prop) (w : World) : Prop :=
 thenW (w.alloc (.cells #[.int .i64 bs, .int .i64 bw, .int .u64 c3, .int .i64 ck, .int .i64 cg, .int .i64 c0, .slice bz bv c1, .int .u64 c4] 29)) fun a0 =>
 thenW (a0.alloc (.cells #[.int .i64 0, .int .i64 0, .int .u64 0, .int .i64 0, .int .i64 0, .int .i64 0, .slice none 0 0, .int .u64 0] 29)) fun cx =>
 ∃ (aj : Int) (au : Int) (bh : Int) (bt : Int) (br : Int) (ao : Int) (az : Option Addr) (av : Nat) (ar : Nat) (bo : Int), cellsAt cx (blk w.heap.size) [.int .i64 aj, .int .i64 au, .int .u64 bh, .int .i64 bt, .int .i64 br, .int .i64 ao, .slice az av ar, .int .u64 bo] 0 ∧
 Calls Try.prog 60 #[.agg #[.int .i64 aj, .int .i64 au, .int .u64 bh, .int .i64 bt, .int .i64 br, .int .i64 ao, .slice az av ar, .int .u64 bo]] cx fun d1 c5 => ∃ (bg : Option Addr) (bi : Nat) (bl : Nat) (bc : Int), d1 = .returned (.tuple #[.slice bg bi bl, .int .i64 bc]) ∧
 bif bc != 0 then (
 canStore c5 ((blk a0.heap.size).add 0) ∧
 thenW (c5.setCell ((blk a0.heap.size).add 0) (.int .i64 0)) fun c9 =>
 canStore c9 ((blk a0.heap.size).add 1) ∧
 thenW (c9.setCell ((blk a0.heap.size).add 1) (.int .i64 0)) fun cc =>
 canStore cc ((blk a0.heap.size).add 2) ∧
 thenW (cc.setCell ((blk a0.heap.size).add 2) (.int .u64 0)) fun ca =>
 canStore ca ((blk a0.heap.size).add 3) ∧
 thenW (ca.setCell ((blk a0.heap.size).add 3) (.int .i64 0)) fun c6 =>
 canStore c6 ((blk a0.heap.size).add 4) ∧
 thenW (c6.setCell ((blk a0.heap.size).add 4) (.int .i64 0)) fun co =>
 canStore co ((blk a0.heap.size).add 5) ∧
 thenW (co.setCell ((blk a0.heap.size).add 5) (.int .i64 0)) fun cf =>
 canStore cf ((blk a0.heap.size).add 6) ∧
 thenW (cf.setCell ((blk a0.heap.size).add 6) (.slice none 0 0)) fun cy =>
 canStore cy ((blk a0.heap.size).add 7) ∧
 thenW (cy.setCell ((blk a0.heap.size).add 7) (.int .u64 0)) fun cp =>
 ∃ (a1 : Int) (ae : Int) (al : Int) (b2 : Int) (b6 : Int) (a9 : Int) (a5 : Option Addr) (ag : Nat) (af : Nat) (ay : Int), cellsAt cp (blk a0.heap.size) [.int .i64 a1, .int .i64 ae, .int .u64 al, .int .i64 b2, .int .i64 b6, .int .i64 a9, .slice a5 ag af, .int .u64 ay] 0 ∧
 R (.tuple #[.agg #[.int .i64 a1, .int .i64 ae, .int .u64 al, .int .i64 b2, .int .i64 b6, .int .i64 a9, .slice a5 ag af, .int .u64 ay], .int .i64 bc]) cp) else (
 Calls Try.prog 52 #[.pointer o1, .int .u64 bx, .slice bg bi bl] c5 fun d0 ci => ∃ (bp : Int) (bd : Int), d0 = .returned (.tuple #[.int .u64 bp, .int .i64 bd]) ∧
 canStore ci (((blk w.heap.size).add 7).add 0) ∧
 thenW (ci.setCell (((blk w.heap.size).add 7).add 0) (.int .u64 bp)) fun bu =>
 bif bd != 0 then (
 canStore bu ((blk a0.heap.size).add 0) ∧
 thenW (bu.setCell ((blk a0.heap.size).add 0) (.int .i64 0)) fun cs =>
 canStore cs ((blk a0.heap.size).add 1) ∧
 thenW (cs.setCell ((blk a0.heap.size).add 1) (.int .i64 0)) fun ct =>
 canStore ct ((blk a0.heap.size).add 2) ∧
 thenW (ct.setCell ((blk a0.heap.size).add 2) (.int .u64 0)) fun cb =>
 canStore cb ((blk a0.heap.size).add 3) ∧
 thenW (cb.setCell ((blk a0.heap.size).add 3) (.int .i64 0)) fun cw =>
 canStore cw ((blk a0.heap.size).add 4) ∧
 thenW (cw.setCell ((blk a0.heap.size).add 4) (.int .i64 0)) fun c8 =>
 canStore c8 ((blk a0.heap.size).add 5) ∧
 thenW (c8.setCell ((blk a0.heap.size).add 5) (.int .i64 0)) fun cd =>
 canStore cd ((blk a0.heap.size).add 6) ∧
 thenW (cd.setCell ((blk a0.heap.size).add 6) (.slice none 0 0)) fun cr =>
 canStore cr ((blk a0.heap.size).add 7) ∧
 thenW (cr.setCell ((blk a0.heap.size).add 7) (.int .u64 0)) fun cm =>
 ∃ (a2 : Int) (ac : Int) (am : Int) (b0 : Int) (ax : Int) (ai : Int) (a7 : Option Addr) (ab : Nat) (ad : Nat) (b9 : Int), cellsAt cm (blk a0.heap.size) [.int .i64 a2, .int .i64 ac, .int .u64 am, .int .i64 b0, .int .i64 ax, .int .i64 ai, .slice a7 ab ad, .int .u64 b9] 0 ∧
 R (.tuple #[.agg #[.int .i64 a2, .int .i64 ac, .int .u64 am, .int .i64 b0, .int .i64 ax, .int .i64 ai, .slice a7 ab ad, .int .u64 b9], .int .i64 bd]) cm) else (
 ∃ (bk : Option Addr) (bf : Nat) (bj : Nat), bu.cell? ((blk w.heap.size).add 6) = some (.slice bk bf bj) ∧
 Calls Try.prog 61 #[.slice bk bf bj] bu fun cz cv => ∃ (ap : Option Addr) (b1 : Nat) (bb : Nat), cz = .returned (.slice ap b1 bb) ∧
 canStore cv (((blk w.heap.size).add 6).add 0) ∧
 thenW (cv.setCell (((blk w.heap.size).add 6).add 0) (.slice ap b1 bb)) fun c2 =>
 ∃ (ak : Int) (b3 : Int) (be : Int) (bm : Int) (bn : Int) (b8 : Int) (b7 : Option Addr) (aw : Nat) (b5 : Nat) (bq : Int), cellsAt c2 (blk w.heap.size) [.int .i64 ak, .int .i64 b3, .int .u64 be, .int .i64 bm, .int .i64 bn, .int .i64 b8, .slice b7 aw b5, .int .u64 bq] 0 ∧
 canStore c2 ((blk a0.heap.size).add 0) ∧
 thenW (c2.setCell ((blk a0.heap.size).add 0) (.int .i64 ak)) fun cq =>
 canStore cq ((blk a0.heap.size).add 1) ∧
 thenW (cq.setCell ((blk a0.heap.size).add 1) (.int .i64 b3)) fun ce =>
 canStore ce ((blk a0.heap.size).add 2) ∧
 thenW (ce.setCell ((blk a0.heap.size).add 2) (.int .u64 be)) fun c7 =>
 canStore c7 ((blk a0.heap.size).add 3) ∧
 thenW (c7.setCell ((blk a0.heap.size).add 3) (.int .i64 bm)) fun ch =>
 canStore ch ((blk a0.heap.size).add 4) ∧
 thenW (ch.setCell ((blk a0.heap.size).add 4) (.int .i64 bn)) fun cl =>
 canStore cl ((blk a0.heap.size).add 5) ∧
 thenW (cl.setCell ((blk a0.heap.size).add 5) (.int .i64 b8)) fun cn =>
 canStore cn ((blk a0.heap.size).add 6) ∧
 thenW (cn.setCell ((blk a0.heap.size).add 6) (.slice b7 aw b5)) fun cj =>
 canStore cj ((blk a0.heap.size).add 7) ∧
 thenW (cj.setCell ((blk a0.heap.size).add 7) (.int .u64 bq)) fun cu =>
 ∃ (a3 : Int) (a8 : Int) (an : Int) (ba : Int) (b4 : Int) (a6 : Int) (ah : Option Addr) (a4 : Nat) (aa : Nat) (aq : Int), cellsAt cu (blk a0.heap.size) [.int .i64 a3, .int .i64 a8, .int .u64 an, .int .i64 ba, .int .i64 b4, .int .i64 a6, .slice ah a4 aa, .int .u64 aq] 0 ∧
 R (.tuple #[.agg #[.int .i64 a3, .int .i64 a8, .int .u64 an, .int .i64 ba, .int .i64 b4, .int .i64 a6, .slice ah a4 aa, .int .u64 aq], .int .i64 0]) cu))

theorem entry_Sign.eq (o1 : Option Addr) (secret2 : Int) (eWriter3 : Int) (eIndex4 : Int) (ePrev5 : Int) (eAtT6 : Int) (eAtW7 : Int) (eEpoch8 : Int) (eBody9a : Option Addr) (eBody9n : Nat) (eBody9c : Nat) (eSig10 : Int) (R : Value → World → Prop) (w : World) : mfunc Try.prog [] 28 [.pointer o1, .int .u64 secret2, .agg #[.int .i64 eWriter3, .int .i64 eIndex4, .int .u64 ePrev5, .int .i64 eAtT6, .int .i64 eAtW7, .int .i64 eEpoch8, .slice eBody9a eBody9n eBody9c, .int .u64 eSig10]] R w = entry_Sign.M o1 secret2 eWriter3 eIndex4 ePrev5 eAtT6 eAtW7 eEpoch8 eBody9a eBody9n eBody9c eSig10 R w := by kernel_rfl
theorem entry_Sign.ok (o1 : Option Addr) (a3 : Int) (a0 : Int) (a1 : Int) (a7 : Int) (aa : Int) (a9 : Int) (a2 : Int) (a4 : Option Addr) (a5 : Nat) (a6 : Nat) (a8 : Int) {R : Value → World → Prop} {w : World} (h : entry_Sign.M o1 a3 a0 a1 a7 aa a9 a2 a4 a5 a6 a8 R w) : Calls Try.prog 28 #[.pointer o1, .int .u64 a3, .agg #[.int .i64 a0, .int .i64 a1, .int .u64 a7, .int .i64 aa, .int .i64 a9, .int .i64 a2, .slice a4 a5 a6, .int .u64 a8]] w fun e w' => ∃ v, e = .returned v ∧ R v w' :=
  mfunc_ok follows (H := []) (args := [.pointer o1, .int .u64 a3, .agg #[.int .i64 a0, .int .i64 a1, .int .u64 a7, .int .i64 aa, .int .i64 a9, .int .i64 a2, .slice a4 a5 a6, .int .u64 a8]]) (by rw [entry_Sign.eq]; exact h)

def entry_Sign.N (o1 : Option Addr) (ag : Int) (a5 : Int) (aa : Int) (ae : Int) (ak : Int) (aj : Int) (ac : Int) (a7 : Option Addr) (a8 : Nat) (ad : Nat) (am : Int) (R : Value → World → Prop) (w : World) : Prop :=
 ∀ (ah : World) (ao : Nat) (an : Nat), Ext no w ah → Priv w ah [ao, an] →
 Calls Try.prog 60 #[.agg #[.int .i64 a5, .int .i64 aa, .int .u64 ae, .int .i64 ak, .int .i64 aj, .int .i64 ac, .slice a7 a8 ad, .int .u64 am]] ah fun aw ai => ∃ (a6 : Option Addr) (ab : Nat) (a9 : Nat) (a0 : Int), aw = .returned (.tuple #[.slice a6 ab a9, .int .i64 a0]) ∧
 Keep [ao, an] ah ai ∧
 (a0 ≠ 0 →
 ∀ (au : World), Ext (fun b => b = an) ai au →
 R (.tuple #[.agg #[.int .i64 0, .int .i64 0, .int .u64 0, .int .i64 0, .int .i64 0, .int .i64 0, .slice none 0 0, .int .u64 0], .int .i64 a0]) au) ∧
 (a0 = 0 →
 Calls Try.prog 52 #[.pointer o1, .int .u64 ag, .slice a6 ab a9] ai fun ay ap => ∃ (af : Int) (a1 : Int), ay = .returned (.tuple #[.int .u64 af, .int .i64 a1]) ∧
 Keep [ao, an] ai ap ∧
 (a1 ≠ 0 →
 ∀ (av : World), Ext (fun b => b = an ∨ b = ao) ap av →
 R (.tuple #[.agg #[.int .i64 0, .int .i64 0, .int .u64 0, .int .i64 0, .int .i64 0, .int .i64 0, .slice none 0 0, .int .u64 0], .int .i64 a1]) av) ∧
 (a1 = 0 →
 ∀ (al : World), Ext (fun b => b = ao) ap al →
 Calls Try.prog 61 #[.slice a7 a8 ad] al fun ax ar => ∃ (a2 : Option Addr) (a4 : Nat) (a3 : Nat), ax = .returned (.slice a2 a4 a3) ∧
 Keep [ao, an] al ar ∧
 ∀ (aq : World), Ext (fun b => b = an ∨ b = ao) ar aq →
 R (.tuple #[.agg #[.int .i64 a5, .int .i64 aa, .int .u64 ae, .int .i64 ak, .int .i64 aj, .int .i64 ac, .slice a2 a4 a3, .int .u64 af], .int .i64 0]) aq))

theorem entry_Sign.up (o1 : Option Addr) (ah : Int) (a2 : Int) (a3 : Int) (a4 : Int) (a9 : Int) (aa : Int) (a5 : Int) (ad : Option Addr) (ac : Nat) (ae : Nat) (ag : Int) {R : Value → World → Prop} {w : World} (h : entry_Sign.N o1 ah a2 a3 a4 a9 aa a5 ad ac ae ag R w) : entry_Sign.M o1 ah a2 a3 a4 a9 aa a5 ad ac ae ag R w := by
  unfold entry_Sign.M
  unfold entry_Sign.N at h
  refine thenW_in fun a1 ct => ?_
  have ab := Blk.of_new ct
  have dg := ((Ext.refl no w)).size
  have ay := (Ext.refl no w).x_alloc ct
  refine thenW_in fun cj bj => ?_
  have a0 := Blk.of_new bj
  have df := (ay).size
  have an := Nat.ne_of_lt ab.lt
  have ab := ab.x_alloc bj
  have cc := ay.x_alloc bj
  refine ⟨a2, a3, a4, a9, aa, a5, ad, ac, ae, ag, ⟨ab.celli 0 rfl rfl, ab.celli 1 rfl rfl, ab.celli 2 rfl rfl, ab.celli 3 rfl rfl, ab.celli 4 rfl rfl, ab.celli 5 rfl rfl, ab.celli 6 rfl rfl, ab.celli 7 rfl rfl, trivial⟩, ?_⟩
  have h := h cj (w.heap.size) (a1.heap.size) cc (Priv.cons dg ab.lt (Priv.cons df a0.lt Priv.nil))
  refine h.mono fun dc ao h => ?_
  obtain ⟨ai, al, ak, ap, he, hk, h⟩ := h
  refine ⟨ai, al, ak, ap, he, ?_⟩
  have ab := hk.blk ab (by simp)
  have a0 := hk.blk a0 (by simp)
  refine bif_of (fun bq => ?_) (fun bq => ?_)
  · have h := h.1 (bne_t bq)
    have bi : Ext (fun b => b = a1.heap.size) ao ao := ((Ext.refl no ao)).none
    refine ⟨a0.cani 0 rfl rfl, thenW_in fun b5 cy => ?_⟩
    have br := bi.x_set (q := a1.heap.size) (i := 0) rfl (.inl rfl) cy
    have a0 : Blk b5 a1.heap.size 29 [.int .i64 0, .int .i64 0, .int .u64 0, .int .i64 0, .int .i64 0, .int .i64 0, .slice none 0 0, .int .u64 0] := a0.seti 0 rfl cy
    refine ⟨a0.cani 1 rfl rfl, thenW_in fun cd d3 => ?_⟩
    have b4 := br.x_set (q := a1.heap.size) (i := 1) rfl (.inl rfl) d3
    have a0 : Blk cd a1.heap.size 29 [.int .i64 0, .int .i64 0, .int .u64 0, .int .i64 0, .int .i64 0, .int .i64 0, .slice none 0 0, .int .u64 0] := a0.seti 1 rfl d3
    refine ⟨a0.cani 2 rfl rfl, thenW_in fun c7 cu => ?_⟩
    have ch := b4.x_set (q := a1.heap.size) (i := 2) rfl (.inl rfl) cu
    have a0 : Blk c7 a1.heap.size 29 [.int .i64 0, .int .i64 0, .int .u64 0, .int .i64 0, .int .i64 0, .int .i64 0, .slice none 0 0, .int .u64 0] := a0.seti 2 rfl cu
    refine ⟨a0.cani 3 rfl rfl, thenW_in fun bk d4 => ?_⟩
    have b8 := ch.x_set (q := a1.heap.size) (i := 3) rfl (.inl rfl) d4
    have a0 : Blk bk a1.heap.size 29 [.int .i64 0, .int .i64 0, .int .u64 0, .int .i64 0, .int .i64 0, .int .i64 0, .slice none 0 0, .int .u64 0] := a0.seti 3 rfl d4
    refine ⟨a0.cani 4 rfl rfl, thenW_in fun c1 cp => ?_⟩
    have bv := b8.x_set (q := a1.heap.size) (i := 4) rfl (.inl rfl) cp
    have a0 : Blk c1 a1.heap.size 29 [.int .i64 0, .int .i64 0, .int .u64 0, .int .i64 0, .int .i64 0, .int .i64 0, .slice none 0 0, .int .u64 0] := a0.seti 4 rfl cp
    refine ⟨a0.cani 5 rfl rfl, thenW_in fun b7 cz => ?_⟩
    have bp := bv.x_set (q := a1.heap.size) (i := 5) rfl (.inl rfl) cz
    have a0 : Blk b7 a1.heap.size 29 [.int .i64 0, .int .i64 0, .int .u64 0, .int .i64 0, .int .i64 0, .int .i64 0, .slice none 0 0, .int .u64 0] := a0.seti 5 rfl cz
    refine ⟨a0.cani 6 rfl rfl, thenW_in fun bb d1 => ?_⟩
    have bw := bp.x_set (q := a1.heap.size) (i := 6) rfl (.inl rfl) d1
    have a0 : Blk bb a1.heap.size 29 [.int .i64 0, .int .i64 0, .int .u64 0, .int .i64 0, .int .i64 0, .int .i64 0, .slice none 0 0, .int .u64 0] := a0.seti 6 rfl d1
    refine ⟨a0.cani 7 rfl rfl, thenW_in fun av cs => ?_⟩
    have bo := bw.x_set (q := a1.heap.size) (i := 7) rfl (.inl rfl) cs
    have a0 : Blk av a1.heap.size 29 [.int .i64 0, .int .i64 0, .int .u64 0, .int .i64 0, .int .i64 0, .int .i64 0, .slice none 0 0, .int .u64 0] := a0.seti 7 rfl cs
    refine ⟨0, 0, 0, 0, 0, 0, none, 0, 0, 0, ⟨a0.celli 0 rfl rfl, a0.celli 1 rfl rfl, a0.celli 2 rfl rfl, a0.celli 3 rfl rfl, a0.celli 4 rfl rfl, a0.celli 5 rfl rfl, a0.celli 6 rfl rfl, a0.celli 7 rfl rfl, trivial⟩, ?_⟩
    have h := h av bo
    exact h
  · have h := h.2 (bne_f bq)
    refine h.mono fun dd am h => ?_
    obtain ⟨af, ar, he, hk, h⟩ := h
    refine ⟨af, ar, he, ?_⟩
    have ab := hk.blk ab (by simp)
    have a0 := hk.blk a0 (by simp)
    have bg : Ext (fun b => b = w.heap.size) am am := ((Ext.refl no am)).none
    refine ⟨ab.cani 7 rfl rfl, thenW_in fun aq cm => ?_⟩
    have aw := bg.x_set (q := w.heap.size) (i := 7) rfl (.inl rfl) cm
    have ab : Blk aq w.heap.size 29 [.int .i64 a2, .int .i64 a3, .int .u64 a4, .int .i64 a9, .int .i64 aa, .int .i64 a5, .slice ad ac ae, .int .u64 af] := ab.seti 7 rfl cm
    have a0 := a0.oth (q := w.heap.size) (i := 7) rfl (Ne.symm an) cm
    refine bif_of (fun b3 => ?_) (fun b3 => ?_)
    · have h := h.1 (bne_t b3)
      have b0 : Ext (fun b => b = a1.heap.size ∨ b = w.heap.size) am aq := (aw).mono fun _ h _ => .inr h
      refine ⟨a0.cani 0 rfl rfl, thenW_in fun b2 d7 => ?_⟩
      have c6 := b0.x_set (q := a1.heap.size) (i := 0) rfl (.inl (.inl rfl)) d7
      have a0 : Blk b2 a1.heap.size 29 [.int .i64 0, .int .i64 0, .int .u64 0, .int .i64 0, .int .i64 0, .int .i64 0, .slice none 0 0, .int .u64 0] := a0.seti 0 rfl d7
      refine ⟨a0.cani 1 rfl rfl, thenW_in fun bd db => ?_⟩
      have bu := c6.x_set (q := a1.heap.size) (i := 1) rfl (.inl (.inl rfl)) db
      have a0 : Blk bd a1.heap.size 29 [.int .i64 0, .int .i64 0, .int .u64 0, .int .i64 0, .int .i64 0, .int .i64 0, .slice none 0 0, .int .u64 0] := a0.seti 1 rfl db
      refine ⟨a0.cani 2 rfl rfl, thenW_in fun bl d6 => ?_⟩
      have bm := bu.x_set (q := a1.heap.size) (i := 2) rfl (.inl (.inl rfl)) d6
      have a0 : Blk bl a1.heap.size 29 [.int .i64 0, .int .i64 0, .int .u64 0, .int .i64 0, .int .i64 0, .int .i64 0, .slice none 0 0, .int .u64 0] := a0.seti 2 rfl d6
      refine ⟨a0.cani 3 rfl rfl, thenW_in fun bf cr => ?_⟩
      have ck := bm.x_set (q := a1.heap.size) (i := 3) rfl (.inl (.inl rfl)) cr
      have a0 : Blk bf a1.heap.size 29 [.int .i64 0, .int .i64 0, .int .u64 0, .int .i64 0, .int .i64 0, .int .i64 0, .slice none 0 0, .int .u64 0] := a0.seti 3 rfl cr
      refine ⟨a0.cani 4 rfl rfl, thenW_in fun cl d9 => ?_⟩
      have bc := ck.x_set (q := a1.heap.size) (i := 4) rfl (.inl (.inl rfl)) d9
      have a0 : Blk cl a1.heap.size 29 [.int .i64 0, .int .i64 0, .int .u64 0, .int .i64 0, .int .i64 0, .int .i64 0, .slice none 0 0, .int .u64 0] := a0.seti 4 rfl d9
      refine ⟨a0.cani 5 rfl rfl, thenW_in fun b1 d5 => ?_⟩
      have c0 := bc.x_set (q := a1.heap.size) (i := 5) rfl (.inl (.inl rfl)) d5
      have a0 : Blk b1 a1.heap.size 29 [.int .i64 0, .int .i64 0, .int .u64 0, .int .i64 0, .int .i64 0, .int .i64 0, .slice none 0 0, .int .u64 0] := a0.seti 5 rfl d5
      refine ⟨a0.cani 6 rfl rfl, thenW_in fun c9 co => ?_⟩
      have bs := c0.x_set (q := a1.heap.size) (i := 6) rfl (.inl (.inl rfl)) co
      have a0 : Blk c9 a1.heap.size 29 [.int .i64 0, .int .i64 0, .int .u64 0, .int .i64 0, .int .i64 0, .int .i64 0, .slice none 0 0, .int .u64 0] := a0.seti 6 rfl co
      refine ⟨a0.cani 7 rfl rfl, thenW_in fun ax cv => ?_⟩
      have bx := bs.x_set (q := a1.heap.size) (i := 7) rfl (.inl (.inl rfl)) cv
      have a0 : Blk ax a1.heap.size 29 [.int .i64 0, .int .i64 0, .int .u64 0, .int .i64 0, .int .i64 0, .int .i64 0, .slice none 0 0, .int .u64 0] := a0.seti 7 rfl cv
      refine ⟨0, 0, 0, 0, 0, 0, none, 0, 0, 0, ⟨a0.celli 0 rfl rfl, a0.celli 1 rfl rfl, a0.celli 2 rfl rfl, a0.celli 3 rfl rfl, a0.celli 4 rfl rfl, a0.celli 5 rfl rfl, a0.celli 6 rfl rfl, a0.celli 7 rfl rfl, trivial⟩, ?_⟩
      have h := h ax bx
      exact h
    · have h := h.2 (bne_f b3)
      refine ⟨ad, ac, ae, ab.celli 6 rfl rfl, ?_⟩
      have h := h aq aw
      refine h.mono fun de aj h => ?_
      obtain ⟨a8, a7, a6, he, hk, h⟩ := h
      refine ⟨a8, a7, a6, he, ?_⟩
      have ab := hk.blk ab (by simp)
      have a0 := hk.blk a0 (by simp)
      have bt : Ext (fun b => b = w.heap.size) aj aj := ((Ext.refl no aj)).none
      refine ⟨ab.cani 6 rfl rfl, thenW_in fun au bh => ?_⟩
      have cg := bt.x_set (q := w.heap.size) (i := 6) rfl (.inl rfl) bh
      have ab : Blk au w.heap.size 29 [.int .i64 a2, .int .i64 a3, .int .u64 a4, .int .i64 a9, .int .i64 aa, .int .i64 a5, .slice a8 a7 a6, .int .u64 af] := ab.seti 6 rfl bh
      have a0 := a0.oth (q := w.heap.size) (i := 6) rfl (Ne.symm an) bh
      refine ⟨a2, a3, a4, a9, aa, a5, a8, a7, a6, af, ⟨ab.celli 0 rfl rfl, ab.celli 1 rfl rfl, ab.celli 2 rfl rfl, ab.celli 3 rfl rfl, ab.celli 4 rfl rfl, ab.celli 5 rfl rfl, ab.celli 6 rfl rfl, ab.celli 7 rfl rfl, trivial⟩, ?_⟩
      have bn : Ext (fun b => b = a1.heap.size ∨ b = w.heap.size) aj au := (cg).mono fun _ h _ => .inr h
      refine ⟨a0.cani 0 rfl rfl, thenW_in fun c4 cn => ?_⟩
      have b9 := bn.x_set (q := a1.heap.size) (i := 0) rfl (.inl (.inl rfl)) cn
      have a0 : Blk c4 a1.heap.size 29 [.int .i64 a2, .int .i64 0, .int .u64 0, .int .i64 0, .int .i64 0, .int .i64 0, .slice none 0 0, .int .u64 0] := a0.seti 0 rfl cn
      refine ⟨a0.cani 1 rfl rfl, thenW_in fun c5 d8 => ?_⟩
      have bz := b9.x_set (q := a1.heap.size) (i := 1) rfl (.inl (.inl rfl)) d8
      have a0 : Blk c5 a1.heap.size 29 [.int .i64 a2, .int .i64 a3, .int .u64 0, .int .i64 0, .int .i64 0, .int .i64 0, .slice none 0 0, .int .u64 0] := a0.seti 1 rfl d8
      refine ⟨a0.cani 2 rfl rfl, thenW_in fun ba cx => ?_⟩
      have ca := bz.x_set (q := a1.heap.size) (i := 2) rfl (.inl (.inl rfl)) cx
      have a0 : Blk ba a1.heap.size 29 [.int .i64 a2, .int .i64 a3, .int .u64 a4, .int .i64 0, .int .i64 0, .int .i64 0, .slice none 0 0, .int .u64 0] := a0.seti 2 rfl cx
      refine ⟨a0.cani 3 rfl rfl, thenW_in fun ci da => ?_⟩
      have cb := ca.x_set (q := a1.heap.size) (i := 3) rfl (.inl (.inl rfl)) da
      have a0 : Blk ci a1.heap.size 29 [.int .i64 a2, .int .i64 a3, .int .u64 a4, .int .i64 a9, .int .i64 0, .int .i64 0, .slice none 0 0, .int .u64 0] := a0.seti 3 rfl da
      refine ⟨a0.cani 4 rfl rfl, thenW_in fun b6 d2 => ?_⟩
      have cf := cb.x_set (q := a1.heap.size) (i := 4) rfl (.inl (.inl rfl)) d2
      have a0 : Blk b6 a1.heap.size 29 [.int .i64 a2, .int .i64 a3, .int .u64 a4, .int .i64 a9, .int .i64 aa, .int .i64 0, .slice none 0 0, .int .u64 0] := a0.seti 4 rfl d2
      refine ⟨a0.cani 5 rfl rfl, thenW_in fun be d0 => ?_⟩
      have c8 := cf.x_set (q := a1.heap.size) (i := 5) rfl (.inl (.inl rfl)) d0
      have a0 : Blk be a1.heap.size 29 [.int .i64 a2, .int .i64 a3, .int .u64 a4, .int .i64 a9, .int .i64 aa, .int .i64 a5, .slice none 0 0, .int .u64 0] := a0.seti 5 rfl d0
      refine ⟨a0.cani 6 rfl rfl, thenW_in fun c2 cq => ?_⟩
      have c3 := c8.x_set (q := a1.heap.size) (i := 6) rfl (.inl (.inl rfl)) cq
      have a0 : Blk c2 a1.heap.size 29 [.int .i64 a2, .int .i64 a3, .int .u64 a4, .int .i64 a9, .int .i64 aa, .int .i64 a5, .slice a8 a7 a6, .int .u64 0] := a0.seti 6 rfl cq
      refine ⟨a0.cani 7 rfl rfl, thenW_in fun az cw => ?_⟩
      have ce := c3.x_set (q := a1.heap.size) (i := 7) rfl (.inl (.inl rfl)) cw
      have a0 : Blk az a1.heap.size 29 [.int .i64 a2, .int .i64 a3, .int .u64 a4, .int .i64 a9, .int .i64 aa, .int .i64 a5, .slice a8 a7 a6, .int .u64 af] := a0.seti 7 rfl cw
      refine ⟨a2, a3, a4, a9, aa, a5, a8, a7, a6, af, ⟨a0.celli 0 rfl rfl, a0.celli 1 rfl rfl, a0.celli 2 rfl rfl, a0.celli 3 rfl rfl, a0.celli 4 rfl rfl, a0.celli 5 rfl rfl, a0.celli 6 rfl rfl, a0.celli 7 rfl rfl, trivial⟩, ?_⟩
      have h := h az ce
      exact h

theorem entry_Sign.go (o1 : Option Addr) (a3 : Int) (a0 : Int) (a1 : Int) (a7 : Int) (aa : Int) (a9 : Int) (a2 : Int) (a4 : Option Addr) (a5 : Nat) (a6 : Nat) (a8 : Int) {R : Value → World → Prop} {w : World} (h : entry_Sign.N o1 a3 a0 a1 a7 aa a9 a2 a4 a5 a6 a8 R w) : Calls Try.prog 28 #[.pointer o1, .int .u64 a3, .agg #[.int .i64 a0, .int .i64 a1, .int .u64 a7, .int .i64 aa, .int .i64 a9, .int .i64 a2, .slice a4 a5 a6, .int .u64 a8]] w fun e w' => ∃ v, e = .returned v ∧ R v w' := entry_Sign.ok o1 a3 a0 a1 a7 aa a9 a2 a4 a5 a6 a8 (entry_Sign.up o1 a3 a0 a1 a7 aa a9 a2 a4 a5 a6 a8 h)
/-- entry.Holds -/
def entry_Holds.M (o1 : Option Addr) (ad : Int) (ag : Int) (aj : Int) (an : Int) (au : Int) (aq : Int) (ak : Int) (ah : Option Addr) (ai : Nat) (al : Nat) (ap : Int) (R : Value → World → Prop) (w : World) : Prop :=
 thenW (w.alloc (.cells #[.int .i64 ag, .int .i64 aj, .int .u64 an, .int .i64 au, .int .i64 aq, .int .i64 ak, .slice ah ai al, .int .u64 ap] 29)) fun ar =>
 ∃ (a0 : Int) (a1 : Int) (a9 : Int) (ac : Int) (af : Int) (a4 : Int) (a2 : Option Addr) (a6 : Nat) (a5 : Nat) (ab : Int), cellsAt ar (blk w.heap.size) [.int .i64 a0, .int .i64 a1, .int .u64 a9, .int .i64 ac, .int .i64 af, .int .i64 a4, .slice a2 a6 a5, .int .u64 ab] 0 ∧
 Calls Try.prog 60 #[.agg #[.int .i64 a0, .int .i64 a1, .int .u64 a9, .int .i64 ac, .int .i64 af, .int .i64 a4, .slice a2 a6 a5, .int .u64 ab]] ar fun av ao => ∃ (a8 : Option Addr) (a7 : Nat) (aa : Nat) (ae : Int), av = .returned (.tuple #[.slice a8 a7 aa, .int .i64 ae]) ∧
 bif ae == 0 then (
 ∃ (am : Int), ao.cell? ((blk w.heap.size).add 7) = some (.int .u64 am) ∧
 Calls Try.prog 57 #[.pointer o1, .int .u64 ad, .slice a8 a7 aa, .int .u64 am] ao fun aw ax => ∃ (a3 : Bool), aw = .returned (.bool a3) ∧
 R (.bool a3) ax) else (
 R (.bool false) ao)

theorem entry_Holds.eq (o1 : Option Addr) (publicv2 : Int) (eWriter3 : Int) (eIndex4 : Int) (ePrev5 : Int) (eAtT6 : Int) (eAtW7 : Int) (eEpoch8 : Int) (eBody9a : Option Addr) (eBody9n : Nat) (eBody9c : Nat) (eSig10 : Int) (R : Value → World → Prop) (w : World) : mfunc Try.prog [] 45 [.pointer o1, .int .u64 publicv2, .agg #[.int .i64 eWriter3, .int .i64 eIndex4, .int .u64 ePrev5, .int .i64 eAtT6, .int .i64 eAtW7, .int .i64 eEpoch8, .slice eBody9a eBody9n eBody9c, .int .u64 eSig10]] R w = entry_Holds.M o1 publicv2 eWriter3 eIndex4 ePrev5 eAtT6 eAtW7 eEpoch8 eBody9a eBody9n eBody9c eSig10 R w := by kernel_rfl
theorem entry_Holds.ok (o1 : Option Addr) (a1 : Int) (a0 : Int) (a2 : Int) (a7 : Int) (aa : Int) (a9 : Int) (a3 : Int) (a4 : Option Addr) (a5 : Nat) (a6 : Nat) (a8 : Int) {R : Value → World → Prop} {w : World} (h : entry_Holds.M o1 a1 a0 a2 a7 aa a9 a3 a4 a5 a6 a8 R w) : Calls Try.prog 45 #[.pointer o1, .int .u64 a1, .agg #[.int .i64 a0, .int .i64 a2, .int .u64 a7, .int .i64 aa, .int .i64 a9, .int .i64 a3, .slice a4 a5 a6, .int .u64 a8]] w fun e w' => ∃ v, e = .returned v ∧ R v w' :=
  mfunc_ok follows (H := []) (args := [.pointer o1, .int .u64 a1, .agg #[.int .i64 a0, .int .i64 a2, .int .u64 a7, .int .i64 aa, .int .i64 a9, .int .i64 a3, .slice a4 a5 a6, .int .u64 a8]]) (by rw [entry_Holds.eq]; exact h)

def entry_Holds.N (o1 : Option Addr) (a6 : Int) (a7 : Int) (aa : Int) (ae : Int) (ah : Int) (ag : Int) (ac : Int) (a8 : Option Addr) (a9 : Nat) (ad : Nat) (a5 : Int) (R : Value → World → Prop) (w : World) : Prop :=
 ∀ (ab : World) (al : Nat), Ext no w ab → Priv w ab [al] →
 Calls Try.prog 60 #[.agg #[.int .i64 a7, .int .i64 aa, .int .u64 ae, .int .i64 ah, .int .i64 ag, .int .i64 ac, .slice a8 a9 ad, .int .u64 a5]] ab fun aj af => ∃ (a4 : Option Addr) (a3 : Nat) (a2 : Nat) (a1 : Int), aj = .returned (.tuple #[.slice a4 a3 a2, .int .i64 a1]) ∧
 Keep [al] ab af ∧
 (a1 = 0 →
 Calls Try.prog 57 #[.pointer o1, .int .u64 a6, .slice a4 a3 a2, .int .u64 a5] af fun ai ak => ∃ (a0 : Bool), ai = .returned (.bool a0) ∧
 R (.bool a0) ak) ∧
 (a1 ≠ 0 →
 R (.bool false) af)

theorem entry_Holds.up (o1 : Option Addr) (a7 : Int) (a0 : Int) (a4 : Int) (a8 : Int) (ac : Int) (ab : Int) (a5 : Int) (a1 : Option Addr) (a3 : Nat) (a6 : Nat) (a2 : Int) {R : Value → World → Prop} {w : World} (h : entry_Holds.N o1 a7 a0 a4 a8 ac ab a5 a1 a3 a6 a2 R w) : entry_Holds.M o1 a7 a0 a4 a8 ac ab a5 a1 a3 a6 a2 R w := by
  unfold entry_Holds.M
  unfold entry_Holds.N at h
  refine thenW_in fun ah ak => ?_
  have a9 := Blk.of_new ak
  have al := ((Ext.refl no w)).size
  have aj := (Ext.refl no w).x_alloc ak
  refine ⟨a0, a4, a8, ac, ab, a5, a1, a3, a6, a2, ⟨a9.celli 0 rfl rfl, a9.celli 1 rfl rfl, a9.celli 2 rfl rfl, a9.celli 3 rfl rfl, a9.celli 4 rfl rfl, a9.celli 5 rfl rfl, a9.celli 6 rfl rfl, a9.celli 7 rfl rfl, trivial⟩, ?_⟩
  have h := h ah (w.heap.size) aj (Priv.cons al a9.lt Priv.nil)
  refine h.mono fun an ao h => ?_
  obtain ⟨af, ae, ad, ag, he, hk, h⟩ := h
  refine ⟨af, ae, ad, ag, he, ?_⟩
  have a9 := hk.blk a9 (by simp)
  refine bif_of (fun ai => ?_) (fun ai => ?_)
  · have h := h.1 (beq_t ai)
    refine ⟨a2, a9.celli 7 rfl rfl, ?_⟩
    refine h.mono fun am ap h => ?_
    obtain ⟨aa, he, h⟩ := h
    refine ⟨aa, he, ?_⟩
    exact h
  · have h := h.2 (beq_f ai)
    exact h

theorem entry_Holds.go (o1 : Option Addr) (a1 : Int) (a0 : Int) (a2 : Int) (a7 : Int) (aa : Int) (a9 : Int) (a3 : Int) (a4 : Option Addr) (a5 : Nat) (a6 : Nat) (a8 : Int) {R : Value → World → Prop} {w : World} (h : entry_Holds.N o1 a1 a0 a2 a7 aa a9 a3 a4 a5 a6 a8 R w) : Calls Try.prog 45 #[.pointer o1, .int .u64 a1, .agg #[.int .i64 a0, .int .i64 a2, .int .u64 a7, .int .i64 aa, .int .i64 a9, .int .i64 a3, .slice a4 a5 a6, .int .u64 a8]] w fun e w' => ∃ v, e = .returned v ∧ R v w' := entry_Holds.ok o1 a1 a0 a2 a7 aa a9 a3 a4 a5 a6 a8 (entry_Holds.up o1 a1 a0 a2 a7 aa a9 a3 a4 a5 a6 a8 h)
theorem entry_Holds.run (o1 : Option Addr) (a1 : Int) (a0 : Int) (a2 : Int) (a7 : Int) (aa : Int) (a9 : Int) (a3 : Int) (a4 : Option Addr) (a5 : Nat) (a6 : Nat) (a8 : Int) {V : Value} {Q : World → Prop} {w : World} (h : entry_Holds.N o1 a1 a0 a2 a7 aa a9 a3 a4 a5 a6 a8 (fun v w' => v = V ∧ Q w') w) : Calls Try.prog 45 #[.pointer o1, .int .u64 a1, .agg #[.int .i64 a0, .int .i64 a2, .int .u64 a7, .int .i64 aa, .int .i64 a9, .int .i64 a3, .slice a4 a5 a6, .int .u64 a8]] w (Ret V Q) := (entry_Holds.go o1 a1 a0 a2 a7 aa a9 a3 a4 a5 a6 a8 h).mono fun e w' ⟨v, he, hv, hq⟩ => ⟨by rw [he, hv], hq⟩

def signE (S : OS) (s : Int) (e : Ent) : (Ent × Int) × OS :=
  if entRight e = true then (if (signOf S s (textL e)).1.2 = true then (({ e with sg := (signOf S s (textL e)).1.1 }, 0), (signOf S s (textL e)).2) else ((Ent.zero, 11), (signOf S s (textL e)).2)) else ((Ent.zero, 1), S)
def holdsE (S : OS) (p : Int) (e : Ent) : Bool := entRight e && verifyOf S p (textL e) e.sg
section
variable {w w' : World} {o o' : Own} {k : Nat} {S : OS} {K : Nat → Prop}
theorem OwnB.tight {N : Nat} {a : Option Addr} {c : Nat} {l : List UInt8} (h : OwnB N w' a c l) (hN : w.heap.size ≤ N) : Row w' (grow w o) a (bytesV l) := Row.fresh h.row fun ad ha => Nat.le_trans hN (h.fr ad ha).1
theorem bClone_spec {a : Option Addr} {c : Nat} {bs : List UInt8} (h : RowAt w a (bytesV bs)) (hl : bs.length ≤ 1000000) :
    Calls Try.prog 61 #[.slice a bs.length c] w (fun e w' => ∃ a' c', e = .returned (.slice a' bs.length c') ∧ OwnB w.heap.size w' a' c' bs ∧ Ext no w w') := by
  refine (bytes_Clone.go _ _ _ (R := fun v w' => ∃ a' c', v = (.slice a' bs.length c') ∧ OwnB w.heap.size w' a' c' bs ∧ Ext no w w') ?_).mono fun e w' ⟨v, he, a, c, hv, hw⟩ => ⟨a, c, by rw [he, hv], hw⟩
  unfold bytes_Clone.N
  refine ⟨fun hn => ?_, fun hn w2 q X hb hq hq' => ?_⟩
  · subst hn
    have : bs = [] := by simpa [bytesV] using h.none_nil
    subst this
    exact ⟨none, 0, rfl, OwnB.nil _ _, Ext.refl _ _⟩
  · have hO : OwnB w.heap.size w2 (some (blk q)) 0 [] := ⟨owns_of_blk hb rfl (Nat.zero_le _), fun ad ha => by cases ha; exact ⟨hq, hq'⟩⟩
    obtain ⟨a', c', w', hr, hO', hx⟩ := hO.append (t := 23) (ty := 23) Try.underlying23 X.size (xc := c) (h.no X) (by simp; omega)
    rw [List.nil_append] at hr hO'
    exact ⟨a', _, c', w', hr, a', c', rfl, hO', X.then hx fun b hb => .inr hb⟩
theorem SignE (h : POrc w o k S) (ok : Tags w o) (hok : S.ok) (hlen : S.used.length < 1000000) (s : Int) {e : Ent} (hf : entRight e = true → e.fit) {ba : Option Addr} {bc : Nat} (hb : Row w o ba (bytesV e.body)) :
    Calls Try.prog 28 #[.pointer (some (blk k)), .int .u64 s, entV e ba bc] w (fun x w' => ∃ o' a' c', x = .returned (.tuple #[entV (signE S s e).1.1 a' c', .int .i64 (signE S s e).1.2]) ∧ Step (fun j => j = k) w o w' o' ∧ POrc w' o' k (signE S s e).2 ∧ Row w' o' a' (bytesV (signE S s e).1.1.body) ∧ (signE S s e).1.1.body.length ≤ c') := by
  refine (entry_Sign.go (some (blk k)) s e.w e.i e.pv e.t e.tw e.ep ba e.body.length bc e.sg (R := fun v w' => ∃ o' a' c', v = (.tuple #[entV (signE S s e).1.1 a' c', .int .i64 (signE S s e).1.2]) ∧ Step (fun j => j = k) w o w' o' ∧ POrc w' o' k (signE S s e).2 ∧ Row w' o' a' (bytesV (signE S s e).1.1.body) ∧ (signE S s e).1.1.body.length ≤ c') ?_).mono fun x w' ⟨v, he, o', a', c', hv, hw⟩ => ⟨o', a', c', by rw [he, hv], hw⟩
  unfold entry_Sign.N
  intro w12 p13 p14 X12 hp
  obtain ⟨hp1, hp2⟩ := hp.two
  obtain ⟨o12, s12, t13, t14⟩ := Step.priv2 X12 hp ok
  have hkl := h.lt
  refine (TextK_spec hf (hb.step s12).1).mono fun x w18 ⟨a, c, he, hO, X⟩ => ⟨_, _, _, _, he, X.kept, ?_⟩
  have s18' := Step.of_no X s12.ok
  have s18 := s12.trans s18'
  have t13 : grow w12 o12 p13 = some p13 := (s18'.own hp1.2).trans t13
  have t14 : grow w12 o12 p14 = some p14 := (s18'.own hp2.2).trans t14
  have h18 := h.step s18 id
  have l18 := X.size
  unfold textK signE at *
  by_cases hr : entRight e = true
  · rw [if_pos hr] at hO ⊢
    rw [if_pos hr]
    refine ⟨fun h => absurd rfl h, fun _ => ?_⟩
    refine (SignO h18 s18.ok hok hlen s (OwnB.tight hO (Nat.le_refl _))).mono fun x w31 ⟨o31, he, s31', h31⟩ => ⟨_, _, he, s31'.keep2 t13 (by omega) t14 (by omega), ?_⟩
    have s31 := s18.none.trans s31'
    have t13 := (s31'.own (by omega)).trans t13
    have t14 := (s31'.own (by omega)).trans t14
    have l31 := s31'.size
    cases hs : (signOf S s (textL e)).1.2
    · simp only [if_false, Bool.false_eq_true]
      refine ⟨fun _ w41 X41 => ?_, fun h => absurd h (by decide)⟩
      obtain ⟨o41, s41⟩ := Step.store2 X41 s31.ok t14 t13
      exact ⟨o41, none, 0, rfl, s31.trans' s41 fun j hj => .inr (by omega), h31.step s41 (by omega), Row.nil _ _ _, Nat.le_refl _⟩
    · simp only [if_true]
      refine ⟨fun h => absurd rfl h, fun _ w32 X32 => ?_⟩
      obtain ⟨o32, s32'⟩ := Step.store1 X32 s31.ok t13
      have s32 := s31.trans' s32' fun j hj => .inr (by omega)
      have hbl := ((entRight_iff _).1 hr).2.2.2.2.2.2.2.2.2.1
      have t13 := (s32'.own (by omega)).trans t13
      have t14 := (s32'.own (by omega)).trans t14
      have l32 := s32'.size
      refine (bClone_spec (hb.step s32).1 (by omega)).mono fun x w44 ⟨ca, cc, he, hO, X44⟩ => ⟨_, _, _, he, X44.kept, fun w53 X53 => ?_⟩
      have s44' := Step.of_no X44 s32.ok
      have s44 := s32.trans s44'.none
      have t13 := (s44'.own (by omega)).trans t13
      have t14 := (s44'.own (by omega)).trans t14
      obtain ⟨o53, s53⟩ := Step.store2 X53 s44.ok t14 t13
      exact ⟨o53, ca, cc, rfl, s44.trans' s53 fun j hj => .inr (by omega), ((h31.step s32' (by omega)).step s44' id).step s53 (by omega), (OwnB.tight hO (Nat.le_refl _)).step s53, hO.le⟩
  · rw [if_neg hr]
    rw [if_neg hr]
    refine ⟨fun _ w27 X27 => ?_, fun h => absurd h (by decide)⟩
    obtain ⟨o27, s27⟩ := Step.store1 X27 s18.ok t14
    exact ⟨o27, none, 0, rfl, s18.none.trans' s27 fun j hj => .inr (by omega), h18.step s27 (by omega), Row.nil _ _ _, Nat.le_refl _⟩
theorem HoldsO (h : POrc w o k S) (ok : Tags w o) (p : Int) {e : Ent} (hf : entRight e = true → e.fit) {ba : Option Addr} {bc : Nat} (hb : RowAt w ba (bytesV e.body)) :
    Calls Try.prog 45 #[.pointer (some (blk k)), .int .u64 p, entV e ba bc] w (Ret (.bool (holdsE S p e)) fun w' => Ext no w w') := by
  refine entry_Holds.run (some (blk k)) p e.w e.i e.pv e.t e.tw e.ep ba e.body.length bc e.sg ?_
  unfold entry_Holds.N
  intro w11 p12 X11 hp
  refine (TextK_spec hf (hb.no X11)).mono fun x w16 ⟨a, c, he, hO, X⟩ => ⟨_, _, _, _, he, X.kept, ?_⟩
  have s := (Step.of_no X11 ok).trans (Step.of_no X (Step.of_no X11 ok).ok)
  unfold textK holdsE at *
  by_cases hr : entRight e = true
  · rw [if_pos hr] at hO ⊢
    rw [hr, Bool.true_and]
    refine ⟨fun _ => ?_, fun h => absurd rfl h⟩
    exact (VerifyO (h.step s id) s.ok p e.sg (OwnB.tight hO (Nat.le_refl _))).mono fun x w20 ⟨he, X20⟩ => ⟨_, he, rfl, (X11.trans X).trans X20⟩
  · rw [if_neg hr]
    rw [show entRight e = false by simpa using hr, Bool.false_and]
    exact ⟨fun h => absurd h (by decide), fun _ => ⟨rfl, X11.trans X⟩⟩
end
end Go.Proofs.Ytfmdpjhkojbocaa

/- The reference's entries with its oracle. -/
set_option linter.unusedVariables false
set_option linter.unusedSimpArgs false
set_option maxRecDepth 20000
namespace Go.Proofs.Ytfmdpjhkojbocaa
open Go Go.Mx Go.Proofs
open W (OwnB GivesW numR countR doneR zig unzig intR)
section
variable {w w' : World} {o o' : Own} {k n : Nat} {K : Nat → Prop} {S : OS} {d : List Int} {L : List RRow}
theorem esign_inv (h : OInv S) (s : Int) (e : Ent) : OInv (signE S s e).2 := by
  unfold signE
  split
  · split <;> exact (sign_inv' h s _).1
  · exact h
end
end Go.Proofs.Ytfmdpjhkojbocaa

/- A copy of bytes: predicate. -/
set_option linter.unusedVariables false
set_option linter.unusedSimpArgs false
set_option maxRecDepth 20000
namespace Go.Proofs.Ytfmdpjhkojbocaa
open Go Go.Mx Go.Proofs
/-- slices.Clone[[]byte,byte] -/
def slices_Clone_byte_byte.M (a0 : Option Addr) (a6 : Nat) (a7 : Nat) (R : Value → World → Prop) (w : World) : Prop :=
 bif Option.isNone a0 then (
 R (.slice none 0 0) w) else (
 thenW (w.alloc (.cells #[] 5)) fun a5 =>
 ∃ (a3 : Option Addr) (a2 : Nat) (a4 : Nat) (a1 : World), (Builtin.append_ #[23, 23] 23 #[.slice (some (blk w.heap.size)) 0 0, .slice a0 a6 a7]).run Try.prog a5 = .ok (.slice a3 a2 a4) a1 ∧
 R (.slice a3 a2 a4) a1)

theorem slices_Clone_byte_byte.eq (s1a : Option Addr) (s1n : Nat) (s1c : Nat) (R : Value → World → Prop) (w : World) : mfunc Try.prog [] 70 [.slice s1a s1n s1c] R w = slices_Clone_byte_byte.M s1a s1n s1c R w := by kernel_rfl
theorem slices_Clone_byte_byte.ok (a0 : Option Addr) (a2 : Nat) (a1 : Nat) {R : Value → World → Prop} {w : World} (h : slices_Clone_byte_byte.M a0 a2 a1 R w) : Calls Try.prog 70 #[.slice a0 a2 a1] w fun e w' => ∃ v, e = .returned v ∧ R v w' :=
  mfunc_ok follows (H := []) (args := [.slice a0 a2 a1]) (by rw [slices_Clone_byte_byte.eq]; exact h)

def slices_Clone_byte_byte.N (a1 : Option Addr) (a6 : Nat) (a7 : Nat) (R : Value → World → Prop) (w : World) : Prop :=
 (a1 = none →
 R (.slice none 0 0) w) ∧
 (a1 ≠ none →
 ∀ (a0 : World) (q4 : Nat), Ext no w a0 → Blk a0 q4 5 [] → w.heap.size ≤ q4 → q4 < a0.heap.size →
 ∃ (a5 : Option Addr) (a3 : Nat) (a4 : Nat) (a2 : World), (Builtin.append_ #[23, 23] 23 #[.slice (some (blk q4)) 0 0, .slice a1 a6 a7]).run Try.prog a0 = .ok (.slice a5 a3 a4) a2 ∧
 R (.slice a5 a3 a4) a2)

theorem slices_Clone_byte_byte.up (a0 : Option Addr) (a1 : Nat) (a2 : Nat) {R : Value → World → Prop} {w : World} (h : slices_Clone_byte_byte.N a0 a1 a2 R w) : slices_Clone_byte_byte.M a0 a1 a2 R w := by
  unfold slices_Clone_byte_byte.M
  unfold slices_Clone_byte_byte.N at h
  refine bif_of (fun c2 => ?_) (fun c2 => ?_)
  · have h := h.1 (isNone_t c2)
    exact h
  · have h := h.2 (isNone_f c2)
    refine thenW_in fun a3 e3 => ?_
    have h := h a3 w.heap.size ((Ext.refl no w).x_alloc e3) (Blk.of_new e3) ((Ext.refl no w)).size (size_lt_alloc e3)
    obtain ⟨a7, a5, a6, a4, hr, h⟩ := h
    refine ⟨a7, a5, a6, a4, hr, ?_⟩
    exact h

theorem slices_Clone_byte_byte.go (a0 : Option Addr) (a2 : Nat) (a1 : Nat) {R : Value → World → Prop} {w : World} (h : slices_Clone_byte_byte.N a0 a2 a1 R w) : Calls Try.prog 70 #[.slice a0 a2 a1] w fun e w' => ∃ v, e = .returned v ∧ R v w' := slices_Clone_byte_byte.ok a0 a2 a1 (slices_Clone_byte_byte.up a0 a2 a1 h)
end Go.Proofs.Ytfmdpjhkojbocaa
