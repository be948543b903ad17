/- Stamps: which is less (the program's, and the reference's). -/
import Derived.Test.YtnppbflccbpoeaaZB
import Derived.Test.YtnppbflccbpoeaaZC
import Derived.ArgAppend
set_option linter.unusedVariables false
set_option linter.unusedSimpArgs false
set_option maxRecDepth 20000
set_option maxHeartbeats 2000000
namespace Go.Proofs.Ytnppbflccbpoeaa
open Go Go.Mx Go.Proofs
/-- cmp.isNaN[int64] -/
def cmp_isNaN_int64.M (x1 : Int) (R : Value → World → Prop) (w : World) : Prop :=
  R (.bool (x1 != x1)) w

theorem cmp_isNaN_int64.eq (x1 : Int) (R : Value → World → Prop) (w : World) : mfunc Try.prog [] 92 [.int .i64 x1] R w = cmp_isNaN_int64.M x1 R w := by kernel_rfl
theorem cmp_isNaN_int64.ok (x1 : Int) {R : Value → World → Prop} {w : World} (h : cmp_isNaN_int64.M x1 R w) : Calls Try.prog 92 #[.int .i64 x1] w fun e w' => ∃ v, e = .returned v ∧ R v w' :=
  mfunc_ok follows (H := []) (args := [.int .i64 x1]) (by rw [cmp_isNaN_int64.eq]; exact h)

def cmp_isNaN_int64.N (x1 : Int) (R : Value → World → Prop) (w : World) : Prop :=
  R (.bool (x1 != x1)) w

theorem cmp_isNaN_int64.up (x1 : Int) {R : Value → World → Prop} {w : World} (h : cmp_isNaN_int64.N x1 R w) : cmp_isNaN_int64.M x1 R w := by
  unfold cmp_isNaN_int64.M
  unfold cmp_isNaN_int64.N at h
  exact h

theorem cmp_isNaN_int64.go (x1 : Int) {R : Value → World → Prop} {w : World} (h : cmp_isNaN_int64.N x1 R w) : Calls Try.prog 92 #[.int .i64 x1] w fun e w' => ∃ v, e = .returned v ∧ R v w' := cmp_isNaN_int64.ok x1 (cmp_isNaN_int64.up x1 h)
theorem cmp_isNaN_int64.run (x1 : Int) {V : Value} {Q : World → Prop} {w : World} (h : cmp_isNaN_int64.N x1 (fun v w' => v = V ∧ Q w') w) : Calls Try.prog 92 #[.int .i64 x1] w (Ret V Q) := (cmp_isNaN_int64.go x1 h).mono fun e w' ⟨v, he, hv, hq⟩ => ⟨by rw [he, hv], hq⟩

def cmp_isNaN_int64.F (x1 : Int) : Bool :=
  (x1 != x1)
theorem cmp_isNaN_int64.pure (x1 : Int) {w : World} : Calls Try.prog 92 #[.int .i64 x1] w (Ret (.bool (cmp_isNaN_int64.F x1)) fun w' => Ext no w w') := by
  refine cmp_isNaN_int64.run x1 ?_
  unfold cmp_isNaN_int64.N
  exact ⟨by unfold cmp_isNaN_int64.F; rfl, Ext.refl _ _⟩

/-- cmp.isNaN[int] -/
def cmp_isNaN_int.M (x1 : Int) (R : Value → World → Prop) (w : World) : Prop :=
  R (.bool (x1 != x1)) w

theorem cmp_isNaN_int.eq (x1 : Int) (R : Value → World → Prop) (w : World) : mfunc Try.prog [] 93 [.int .i64 x1] R w = cmp_isNaN_int.M x1 R w := by kernel_rfl
theorem cmp_isNaN_int.ok (x1 : Int) {R : Value → World → Prop} {w : World} (h : cmp_isNaN_int.M x1 R w) : Calls Try.prog 93 #[.int .i64 x1] w fun e w' => ∃ v, e = .returned v ∧ R v w' :=
  mfunc_ok follows (H := []) (args := [.int .i64 x1]) (by rw [cmp_isNaN_int.eq]; exact h)

def cmp_isNaN_int.N (x1 : Int) (R : Value → World → Prop) (w : World) : Prop :=
  R (.bool (x1 != x1)) w

theorem cmp_isNaN_int.up (x1 : Int) {R : Value → World → Prop} {w : World} (h : cmp_isNaN_int.N x1 R w) : cmp_isNaN_int.M x1 R w := by
  unfold cmp_isNaN_int.M
  unfold cmp_isNaN_int.N at h
  exact h

theorem cmp_isNaN_int.go (x1 : Int) {R : Value → World → Prop} {w : World} (h : cmp_isNaN_int.N x1 R w) : Calls Try.prog 93 #[.int .i64 x1] w fun e w' => ∃ v, e = .returned v ∧ R v w' := cmp_isNaN_int.ok x1 (cmp_isNaN_int.up x1 h)
theorem cmp_isNaN_int.run (x1 : Int) {V : Value} {Q : World → Prop} {w : World} (h : cmp_isNaN_int.N x1 (fun v w' => v = V ∧ Q w') w) : Calls Try.prog 93 #[.int .i64 x1] w (Ret V Q) := (cmp_isNaN_int.go x1 h).mono fun e w' ⟨v, he, hv, hq⟩ => ⟨by rw [he, hv], hq⟩

def cmp_isNaN_int.F (x1 : Int) : Bool :=
  (x1 != x1)
theorem cmp_isNaN_int.pure (x1 : Int) {w : World} : Calls Try.prog 93 #[.int .i64 x1] w (Ret (.bool (cmp_isNaN_int.F x1)) fun w' => Ext no w w') := by
  refine cmp_isNaN_int.run x1 ?_
  unfold cmp_isNaN_int.N
  exact ⟨by unfold cmp_isNaN_int.F; rfl, Ext.refl _ _⟩

/-- cmp.Compare[int64] -/
def cmp_Compare_int64.M (x1 : Int) (y2 : Int) (R : Value → World → Prop) (w : World) : Prop :=
  Calls Try.prog 92 #[.int .i64 x1] w fun ee4 ww5 => ∃ (isnan3 : Bool), ee4 = .returned (.bool isnan3) ∧
  Calls Try.prog 92 #[.int .i64 y2] ww5 fun ee7 ww8 => ∃ (isnan6 : Bool), ee7 = .returned (.bool isnan6) ∧
  bif isnan3 then (
  bif isnan6 then (
  R (.int .i64 0) ww8) else (
  R (.int .i64 (-1)) ww8)) else (
  bif isnan6 then (
  R (.int .i64 1) ww8) else (
  bif decide (x1 < y2) then (
  R (.int .i64 (-1)) ww8) else (
  bif decide (x1 > y2) then (
  R (.int .i64 1) ww8) else (
  R (.int .i64 0) ww8))))

theorem cmp_Compare_int64.eq (x1 : Int) (y2 : Int) (R : Value → World → Prop) (w : World) : mfunc Try.prog [] 86 [.int .i64 x1, .int .i64 y2] R w = cmp_Compare_int64.M x1 y2 R w := by kernel_rfl
theorem cmp_Compare_int64.ok (x1 : Int) (y2 : Int) {R : Value → World → Prop} {w : World} (h : cmp_Compare_int64.M x1 y2 R w) : Calls Try.prog 86 #[.int .i64 x1, .int .i64 y2] w fun e w' => ∃ v, e = .returned v ∧ R v w' :=
  mfunc_ok follows (H := []) (args := [.int .i64 x1, .int .i64 y2]) (by rw [cmp_Compare_int64.eq]; exact h)

def cmp_Compare_int64.N (x1 : Int) (y2 : Int) (R : Value → World → Prop) (w : World) : Prop :=
  ((cmp_isNaN_int64.F x1) = true →
    ((cmp_isNaN_int64.F y2) = true →
      ∀ (ww4 : World), Ext no w ww4 →
      R (.int .i64 0) ww4) ∧
    ((cmp_isNaN_int64.F y2) = false →
      ∀ (ww4 : World), Ext no w ww4 →
      R (.int .i64 (-1)) ww4)) ∧
  ((cmp_isNaN_int64.F x1) = false →
    ((cmp_isNaN_int64.F y2) = true →
      ∀ (ww4 : World), Ext no w ww4 →
      R (.int .i64 1) ww4) ∧
    ((cmp_isNaN_int64.F y2) = false →
      (x1 < y2 →
        ∀ (ww4 : World), Ext no w ww4 →
        R (.int .i64 (-1)) ww4) ∧
      (y2 ≤ x1 →
        (x1 > y2 →
          ∀ (ww4 : World), Ext no w ww4 →
          R (.int .i64 1) ww4) ∧
        (x1 ≤ y2 →
          ∀ (ww4 : World), Ext no w ww4 →
          R (.int .i64 0) ww4))))

theorem cmp_Compare_int64.up (x1 : Int) (y2 : Int) {R : Value → World → Prop} {w : World} (h : cmp_Compare_int64.N x1 y2 R w) : cmp_Compare_int64.M x1 y2 R w := by
  unfold cmp_Compare_int64.M
  unfold cmp_Compare_int64.N at h
  refine (cmp_isNaN_int64.pure x1).mono fun ee ww3 ⟨he, hxx⟩ => ⟨(cmp_isNaN_int64.F x1), he, ?_⟩
  have hx3 := (Ext.refl no w).trans hxx
  refine (cmp_isNaN_int64.pure y2).mono fun ee ww4 ⟨he, hxx⟩ => ⟨(cmp_isNaN_int64.F y2), he, ?_⟩
  have hx4 := hx3.trans hxx
  refine bif_of (fun c5 => ?_) (fun c5 => ?_)
  · have h := h.1 c5
    refine bif_of (fun c6 => ?_) (fun c6 => ?_)
    · have h := h.1 c6
      have h := h ww4 hx4
      exact h
    · have h := h.2 c6
      have h := h ww4 hx4
      exact h
  · have h := h.2 c5
    refine bif_of (fun c7 => ?_) (fun c7 => ?_)
    · have h := h.1 c7
      have h := h ww4 hx4
      exact h
    · have h := h.2 c7
      refine bif_of (fun c8 => ?_) (fun c8 => ?_)
      · have h := h.1 (of_decide_eq_true c8)
        have h := h ww4 hx4
        exact h
      · have h := h.2 (Int.not_lt.1 (of_decide_eq_false c8))
        refine bif_of (fun c9 => ?_) (fun c9 => ?_)
        · have h := h.1 (of_decide_eq_true c9)
          have h := h ww4 hx4
          exact h
        · have h := h.2 (Int.not_lt.1 (of_decide_eq_false c9))
          have h := h ww4 hx4
          exact h

theorem cmp_Compare_int64.go (x1 : Int) (y2 : Int) {R : Value → World → Prop} {w : World} (h : cmp_Compare_int64.N x1 y2 R w) : Calls Try.prog 86 #[.int .i64 x1, .int .i64 y2] w fun e w' => ∃ v, e = .returned v ∧ R v w' := cmp_Compare_int64.ok x1 y2 (cmp_Compare_int64.up x1 y2 h)
theorem cmp_Compare_int64.run (x1 : Int) (y2 : Int) {V : Value} {Q : World → Prop} {w : World} (h : cmp_Compare_int64.N x1 y2 (fun v w' => v = V ∧ Q w') w) : Calls Try.prog 86 #[.int .i64 x1, .int .i64 y2] w (Ret V Q) := (cmp_Compare_int64.go x1 y2 h).mono fun e w' ⟨v, he, hv, hq⟩ => ⟨by rw [he, hv], hq⟩

def cmp_Compare_int64.F (x1 : Int) (y2 : Int) : Int :=
  if (cmp_isNaN_int64.F x1) = true then
    if (cmp_isNaN_int64.F y2) = true then
      0
    else
      (-1)
  else
    if (cmp_isNaN_int64.F y2) = true then
      1
    else
      if x1 < y2 then
        (-1)
      else
        if x1 > y2 then
          1
        else
          0
theorem cmp_Compare_int64.pure (x1 : Int) (y2 : Int) {w : World} : Calls Try.prog 86 #[.int .i64 x1, .int .i64 y2] w (Ret (.int .i64 (cmp_Compare_int64.F x1 y2)) fun w' => Ext no w w') := by
  refine cmp_Compare_int64.run x1 y2 ?_
  unfold cmp_Compare_int64.N
  refine ⟨fun c0 => ?_, fun c0 => ?_⟩
  · refine ⟨fun c1 => ?_, fun c1 => ?_⟩
    · intro w' hx; exact ⟨by unfold cmp_Compare_int64.F; rw [if_pos c0, if_pos c1], hx⟩
    · intro w' hx; exact ⟨by unfold cmp_Compare_int64.F; rw [if_pos c0, if_neg (by rw [c1]; decide)], hx⟩
  · refine ⟨fun c1 => ?_, fun c1 => ?_⟩
    · intro w' hx; exact ⟨by unfold cmp_Compare_int64.F; rw [if_neg (by rw [c0]; decide), if_pos c1], hx⟩
    · refine ⟨fun c2 => ?_, fun c2 => ?_⟩
      · intro w' hx; exact ⟨by unfold cmp_Compare_int64.F; rw [if_neg (by rw [c0]; decide), if_neg (by rw [c1]; decide), if_pos c2], hx⟩
      · refine ⟨fun c3 => ?_, fun c3 => ?_⟩
        · intro w' hx; exact ⟨by unfold cmp_Compare_int64.F; rw [if_neg (by rw [c0]; decide), if_neg (by rw [c1]; decide), if_neg (by omega), if_pos c3], hx⟩
        · intro w' hx; exact ⟨by unfold cmp_Compare_int64.F; rw [if_neg (by rw [c0]; decide), if_neg (by rw [c1]; decide), if_neg (by omega), if_neg (by omega)], hx⟩

/-- cmp.Compare[int] -/
def cmp_Compare_int.M (x1 : Int) (y2 : Int) (R : Value → World → Prop) (w : World) : Prop :=
  Calls Try.prog 93 #[.int .i64 x1] w fun ee4 ww5 => ∃ (isnan3 : Bool), ee4 = .returned (.bool isnan3) ∧
  Calls Try.prog 93 #[.int .i64 y2] ww5 fun ee7 ww8 => ∃ (isnan6 : Bool), ee7 = .returned (.bool isnan6) ∧
  bif isnan3 then (
  bif isnan6 then (
  R (.int .i64 0) ww8) else (
  R (.int .i64 (-1)) ww8)) else (
  bif isnan6 then (
  R (.int .i64 1) ww8) else (
  bif decide (x1 < y2) then (
  R (.int .i64 (-1)) ww8) else (
  bif decide (x1 > y2) then (
  R (.int .i64 1) ww8) else (
  R (.int .i64 0) ww8))))

theorem cmp_Compare_int.eq (x1 : Int) (y2 : Int) (R : Value → World → Prop) (w : World) : mfunc Try.prog [] 87 [.int .i64 x1, .int .i64 y2] R w = cmp_Compare_int.M x1 y2 R w := by kernel_rfl
theorem cmp_Compare_int.ok (x1 : Int) (y2 : Int) {R : Value → World → Prop} {w : World} (h : cmp_Compare_int.M x1 y2 R w) : Calls Try.prog 87 #[.int .i64 x1, .int .i64 y2] w fun e w' => ∃ v, e = .returned v ∧ R v w' :=
  mfunc_ok follows (H := []) (args := [.int .i64 x1, .int .i64 y2]) (by rw [cmp_Compare_int.eq]; exact h)

def cmp_Compare_int.N (x1 : Int) (y2 : Int) (R : Value → World → Prop) (w : World) : Prop :=
  ((cmp_isNaN_int.F x1) = true →
    ((cmp_isNaN_int.F y2) = true →
      ∀ (ww4 : World), Ext no w ww4 →
      R (.int .i64 0) ww4) ∧
    ((cmp_isNaN_int.F y2) = false →
      ∀ (ww4 : World), Ext no w ww4 →
      R (.int .i64 (-1)) ww4)) ∧
  ((cmp_isNaN_int.F x1) = false →
    ((cmp_isNaN_int.F y2) = true →
      ∀ (ww4 : World), Ext no w ww4 →
      R (.int .i64 1) ww4) ∧
    ((cmp_isNaN_int.F y2) = false →
      (x1 < y2 →
        ∀ (ww4 : World), Ext no w ww4 →
        R (.int .i64 (-1)) ww4) ∧
      (y2 ≤ x1 →
        (x1 > y2 →
          ∀ (ww4 : World), Ext no w ww4 →
          R (.int .i64 1) ww4) ∧
        (x1 ≤ y2 →
          ∀ (ww4 : World), Ext no w ww4 →
          R (.int .i64 0) ww4))))

theorem cmp_Compare_int.up (x1 : Int) (y2 : Int) {R : Value → World → Prop} {w : World} (h : cmp_Compare_int.N x1 y2 R w) : cmp_Compare_int.M x1 y2 R w := by
  unfold cmp_Compare_int.M
  unfold cmp_Compare_int.N at h
  refine (cmp_isNaN_int.pure x1).mono fun ee ww3 ⟨he, hxx⟩ => ⟨(cmp_isNaN_int.F x1), he, ?_⟩
  have hx3 := (Ext.refl no w).trans hxx
  refine (cmp_isNaN_int.pure y2).mono fun ee ww4 ⟨he, hxx⟩ => ⟨(cmp_isNaN_int.F y2), he, ?_⟩
  have hx4 := hx3.trans hxx
  refine bif_of (fun c5 => ?_) (fun c5 => ?_)
  · have h := h.1 c5
    refine bif_of (fun c6 => ?_) (fun c6 => ?_)
    · have h := h.1 c6
      have h := h ww4 hx4
      exact h
    · have h := h.2 c6
      have h := h ww4 hx4
      exact h
  · have h := h.2 c5
    refine bif_of (fun c7 => ?_) (fun c7 => ?_)
    · have h := h.1 c7
      have h := h ww4 hx4
      exact h
    · have h := h.2 c7
      refine bif_of (fun c8 => ?_) (fun c8 => ?_)
      · have h := h.1 (of_decide_eq_true c8)
        have h := h ww4 hx4
        exact h
      · have h := h.2 (Int.not_lt.1 (of_decide_eq_false c8))
        refine bif_of (fun c9 => ?_) (fun c9 => ?_)
        · have h := h.1 (of_decide_eq_true c9)
          have h := h ww4 hx4
          exact h
        · have h := h.2 (Int.not_lt.1 (of_decide_eq_false c9))
          have h := h ww4 hx4
          exact h

theorem cmp_Compare_int.go (x1 : Int) (y2 : Int) {R : Value → World → Prop} {w : World} (h : cmp_Compare_int.N x1 y2 R w) : Calls Try.prog 87 #[.int .i64 x1, .int .i64 y2] w fun e w' => ∃ v, e = .returned v ∧ R v w' := cmp_Compare_int.ok x1 y2 (cmp_Compare_int.up x1 y2 h)
theorem cmp_Compare_int.run (x1 : Int) (y2 : Int) {V : Value} {Q : World → Prop} {w : World} (h : cmp_Compare_int.N x1 y2 (fun v w' => v = V ∧ Q w') w) : Calls Try.prog 87 #[.int .i64 x1, .int .i64 y2] w (Ret V Q) := (cmp_Compare_int.go x1 y2 h).mono fun e w' ⟨v, he, hv, hq⟩ => ⟨by rw [he, hv], hq⟩

def cmp_Compare_int.F (x1 : Int) (y2 : Int) : Int :=
  if (cmp_isNaN_int.F x1) = true then
    if (cmp_isNaN_int.F y2) = true then
      0
    else
      (-1)
  else
    if (cmp_isNaN_int.F y2) = true then
      1
    else
      if x1 < y2 then
        (-1)
      else
        if x1 > y2 then
          1
        else
          0
theorem cmp_Compare_int.pure (x1 : Int) (y2 : Int) {w : World} : Calls Try.prog 87 #[.int .i64 x1, .int .i64 y2] w (Ret (.int .i64 (cmp_Compare_int.F x1 y2)) fun w' => Ext no w w') := by
  refine cmp_Compare_int.run x1 y2 ?_
  unfold cmp_Compare_int.N
  refine ⟨fun c0 => ?_, fun c0 => ?_⟩
  · refine ⟨fun c1 => ?_, fun c1 => ?_⟩
    · intro w' hx; exact ⟨by unfold cmp_Compare_int.F; rw [if_pos c0, if_pos c1], hx⟩
    · intro w' hx; exact ⟨by unfold cmp_Compare_int.F; rw [if_pos c0, if_neg (by rw [c1]; decide)], hx⟩
  · refine ⟨fun c1 => ?_, fun c1 => ?_⟩
    · intro w' hx; exact ⟨by unfold cmp_Compare_int.F; rw [if_neg (by rw [c0]; decide), if_pos c1], hx⟩
    · refine ⟨fun c2 => ?_, fun c2 => ?_⟩
      · intro w' hx; exact ⟨by unfold cmp_Compare_int.F; rw [if_neg (by rw [c0]; decide), if_neg (by rw [c1]; decide), if_pos c2], hx⟩
      · refine ⟨fun c3 => ?_, fun c3 => ?_⟩
        · intro w' hx; exact ⟨by unfold cmp_Compare_int.F; rw [if_neg (by rw [c0]; decide), if_neg (by rw [c1]; decide), if_neg (by omega), if_pos c3], hx⟩
        · intro w' hx; exact ⟨by unfold cmp_Compare_int.F; rw [if_neg (by rw [c0]; decide), if_neg (by rw [c1]; decide), if_neg (by omega), if_neg (by omega)], hx⟩

/-- cmp.Or[int] -/
def cmp_Or_int.M (vals1a : Option Addr) (vals1n : Nat) (vals1c : Nat) (R : Value → World → Prop) (w : World) : Prop :=
  ∃ (I0 : Nat → List Value → World → Prop) (m3 : Nat), I0 m3 [.int .i64 0] w ∧ ∀ (m4 : Nat) (ww5 : World) (t2 : Int), I0 m4 [.int .i64 t2] ww5 →
  bif decide (t2 < (vals1n : Int)) then (
  vals1a.elim False fun a6 =>
  0 ≤ (t2 : Int) ∧ (t2 : Int) < (vals1n : Int) ∧
  ∃ (x7 : Int), ww5.cell? (a6.add (Int.toNat t2 * 1)) = some (.int .i64 x7) ∧
  bif x7 != 0 then (
  R (.int .i64 x7) ww5) else (
  ∃ m8, m8 < m4 ∧ I0 m8 [.int .i64 (IntKind.i64.wrap (t2 + 1))] ww5)) else (
  R (.int .i64 0) ww5)

theorem cmp_Or_int.eq (vals1a : Option Addr) (vals1n : Nat) (vals1c : Nat) (R : Value → World → Prop) (w : World) : mfunc Try.prog [(0, [3, 6, 7], [(8, (.one (.int .i64)))])] 85 [.slice vals1a vals1n vals1c] R w = cmp_Or_int.M vals1a vals1n vals1c R w := by kernel_rfl
theorem cmp_Or_int.ok (vals1a : Option Addr) (vals1n : Nat) (vals1c : Nat) {R : Value → World → Prop} {w : World} (h : cmp_Or_int.M vals1a vals1n vals1c R w) : Calls Try.prog 85 #[.slice vals1a vals1n vals1c] w fun e w' => ∃ v, e = .returned v ∧ R v w' :=
  mfunc_ok follows (H := [(0, [3, 6, 7], [(8, (.one (.int .i64)))])]) (args := [.slice vals1a vals1n vals1c]) (by rw [cmp_Or_int.eq]; exact h)

def cmp_Or_int.N (vals1a : Option Addr) (vals1n : Nat) (vals1c : Nat) (R : Value → World → Prop) (w : World) : Prop :=
  ∃ (I0 : Nat → List Value → World → Prop) (m3 : Nat), I0 m3 [.int .i64 0] w ∧ ∀ (m4 : Nat) (ww5 : World) (t2 : Int), I0 m4 [.int .i64 t2] ww5 →
  (t2 < (vals1n : Int) →
    ∃ a7 : Addr, vals1a = some a7 ∧
    0 ≤ (t2 : Int) ∧ (t2 : Int) < (vals1n : Int) ∧
    ∃ (x9 : Int), ww5.cell? (a7.add (Int.toNat t2 * 1)) = some (.int .i64 x9) ∧
    (x9 ≠ 0 →
      R (.int .i64 x9) ww5) ∧
    (x9 = 0 →
      (-9223372036854775808 : Int) ≤ (t2 + 1) ∧ (t2 + 1) < 9223372036854775808 ∧
      ∃ m11, m11 < m4 ∧ I0 m11 [.int .i64 (t2 + 1)] ww5)) ∧
  ((vals1n : Int) ≤ t2 →
    R (.int .i64 0) ww5)

theorem cmp_Or_int.up (vals1a : Option Addr) (vals1n : Nat) (vals1c : Nat) {R : Value → World → Prop} {w : World} (h : cmp_Or_int.N vals1a vals1n vals1c R w) : cmp_Or_int.M vals1a vals1n vals1c R w := by
  unfold cmp_Or_int.M
  unfold cmp_Or_int.N at h
  obtain ⟨I0, m3, h0, h⟩ := h
  refine ⟨I0, m3, h0, fun m4 ww5 t2 hI => ?_⟩
  have h := h m4 ww5 t2 hI
  refine bif_of (fun c6 => ?_) (fun c6 => ?_)
  · have h := h.1 (of_decide_eq_true c6)
    obtain ⟨a7, ha7, h⟩ := h
    refine elim_some ha7 ?_
    obtain ⟨hq1, hq2, h⟩ := h
    refine ⟨hq1, hq2, ?_⟩
    obtain ⟨x9, hc8, h⟩ := h
    refine ⟨x9, hc8, ?_⟩
    refine bif_of (fun c10 => ?_) (fun c10 => ?_)
    · have h := h.1 (bne_t c10)
      exact h
    · have h := h.2 (bne_f c10)
      obtain ⟨hw1, hw2, h⟩ := h
      try rw [w64 hw1 hw2]
      obtain ⟨m11, hk, h⟩ := h
      exact ⟨m11, hk, h⟩
  · have h := h.2 (Int.not_lt.1 (of_decide_eq_false c6))
    exact h

theorem cmp_Or_int.go (vals1a : Option Addr) (vals1n : Nat) (vals1c : Nat) {R : Value → World → Prop} {w : World} (h : cmp_Or_int.N vals1a vals1n vals1c R w) : Calls Try.prog 85 #[.slice vals1a vals1n vals1c] w fun e w' => ∃ v, e = .returned v ∧ R v w' := cmp_Or_int.ok vals1a vals1n vals1c (cmp_Or_int.up vals1a vals1n vals1c h)
theorem cmp_Or_int.run (vals1a : Option Addr) (vals1n : Nat) (vals1c : Nat) {V : Value} {Q : World → Prop} {w : World} (h : cmp_Or_int.N vals1a vals1n vals1c (fun v w' => v = V ∧ Q w') w) : Calls Try.prog 85 #[.slice vals1a vals1n vals1c] w (Ret V Q) := (cmp_Or_int.go vals1a vals1n vals1c h).mono fun e w' ⟨v, he, hv, hq⟩ => ⟨by rw [he, hv], hq⟩

/-- stamp.Compare -/
def stamp_Compare.M (aT1 : Int) (aW2 : Int) (bT3 : Int) (bW4 : Int) (R : Value → World → Prop) (w : World) : Prop :=
  thenW (w.alloc (.cells #[.int .i64 aT1, .int .i64 aW2] 37)) fun ww5 =>
  thenW (ww5.alloc (.cells #[.int .i64 bT3, .int .i64 bW4] 37)) fun ww6 =>
  thenW (ww6.drew) fun ww7 =>
  ∃ (T8 : Int), ww7.cell? ((blk w.heap.size).add 0) = some (.int .i64 T8) ∧
  ∃ (T9 : Int), ww7.cell? ((blk ww5.heap.size).add 0) = some (.int .i64 T9) ∧
  ∃ (W10 : Int), ww7.cell? ((blk w.heap.size).add 1) = some (.int .i64 W10) ∧
  ∃ (W11 : Int), ww7.cell? ((blk ww5.heap.size).add 1) = some (.int .i64 W11) ∧
  Calls Try.prog 86 #[.int .i64 T8, .int .i64 T9] ww7 fun ee13 ww14 => ∃ (compare12 : Int), ee13 = .returned (.int .i64 compare12) ∧
  ww14.cell? ((blk ww5.heap.size).add 1) = some (.int .i64 W11) ∧
  ww14.cell? ((blk w.heap.size).add 1) = some (.int .i64 W10) ∧
  Calls Try.prog 87 #[.int .i64 W10, .int .i64 W11] ww14 fun ee16 ww17 => ∃ (compare15 : Int), ee16 = .returned (.int .i64 compare15) ∧
  thenW (ww17.alloc (.cells #[.int .i64 compare12, .int .i64 compare15] 3)) fun ww18 =>
  Calls Try.prog 85 #[.slice (some (blk ww17.heap.size)) 2 2] ww18 fun ee20 ww21 => ∃ (or19 : Int), ee20 = .returned (.int .i64 or19) ∧
  R (.int .i64 or19) ww21

theorem stamp_Compare.eq (aT1 : Int) (aW2 : Int) (bT3 : Int) (bW4 : Int) (R : Value → World → Prop) (w : World) : mfunc Try.prog [] 73 [.agg #[.int .i64 aT1, .int .i64 aW2], .agg #[.int .i64 bT3, .int .i64 bW4]] R w = stamp_Compare.M aT1 aW2 bT3 bW4 R w := by kernel_rfl
theorem stamp_Compare.ok (aT1 : Int) (aW2 : Int) (bT3 : Int) (bW4 : Int) {R : Value → World → Prop} {w : World} (h : stamp_Compare.M aT1 aW2 bT3 bW4 R w) : Calls Try.prog 73 #[.agg #[.int .i64 aT1, .int .i64 aW2], .agg #[.int .i64 bT3, .int .i64 bW4]] w fun e w' => ∃ v, e = .returned v ∧ R v w' :=
  mfunc_ok follows (H := []) (args := [.agg #[.int .i64 aT1, .int .i64 aW2], .agg #[.int .i64 bT3, .int .i64 bW4]]) (by rw [stamp_Compare.eq]; exact h)

def stamp_Compare.N (aT1 : Int) (aW2 : Int) (bT3 : Int) (bW4 : Int) (R : Value → World → Prop) (w : World) : Prop :=
  ∀ (ww10 : World) (q11 : Nat), Ext no w ww10 → Blk ww10 q11 3 [.int .i64 (cmp_Compare_int64.F aT1 bT3), .int .i64 (cmp_Compare_int.F aW2 bW4)] → w.heap.size ≤ q11 → q11 < ww10.heap.size →
  Calls Try.prog 85 #[.slice (some (blk q11)) 2 2] ww10 fun ee15 ww16 => ∃ (or14 : Int), ee15 = .returned (.int .i64 or14) ∧
  R (.int .i64 or14) ww16

theorem stamp_Compare.up (aT1 : Int) (aW2 : Int) (bT3 : Int) (bW4 : Int) {R : Value → World → Prop} {w : World} (h : stamp_Compare.N aT1 aW2 bT3 bW4 R w) : stamp_Compare.M aT1 aW2 bT3 bW4 R w := by
  unfold stamp_Compare.M
  unfold stamp_Compare.N at h
  refine thenW_in fun ww5 e5 => ?_
  have hb1 := Blk.of_new e5
  have hg1 := ((Ext.refl no w)).size
  have hx5 := (Ext.refl no w).x_alloc e5
  refine thenW_in fun ww6 e6 => ?_
  have hb2 := Blk.of_new e6
  have hg2 := (hx5).size
  have hb1_2 := Nat.ne_of_lt hb1.lt
  have hb1 := hb1.x_alloc e6
  have hx6 := hx5.x_alloc e6
  refine thenW_in fun ww7 e7 => ?_
  have hx7 := hx6.x_drew e7
  have hb1 := hb1.x_drew e7
  have hb2 := hb2.x_drew e7
  refine ⟨aT1, hb1.celli 0 rfl rfl, ?_⟩
  refine ⟨bT3, hb2.celli 0 rfl rfl, ?_⟩
  refine ⟨aW2, hb1.celli 1 rfl rfl, ?_⟩
  refine ⟨bW4, hb2.celli 1 rfl rfl, ?_⟩
  refine (cmp_Compare_int64.pure aT1 bT3).mono fun ee ww8 ⟨he, hxx⟩ => ⟨(cmp_Compare_int64.F aT1 bT3), he, ?_⟩
  have hx8 := hx7.trans hxx
  have hb1 := hb1.ext hxx id
  have hb2 := hb2.ext hxx id
  refine ⟨hb2.celli 1 rfl rfl, hb1.celli 1 rfl rfl, ?_⟩
  refine (cmp_Compare_int.pure aW2 bW4).mono fun ee ww9 ⟨he, hxx⟩ => ⟨(cmp_Compare_int.F aW2 bW4), he, ?_⟩
  have hx9 := hx8.trans hxx
  refine thenW_in fun ww10 e10 => ?_
  have h := h ww10 ww9.heap.size (hx9.x_alloc e10) (Blk.of_new e10) (hx9).size (size_lt_alloc e10)
  refine h.mono fun ee15 ww16 h => ?_
  obtain ⟨or14, he, h⟩ := h
  refine ⟨or14, he, ?_⟩
  exact h

theorem stamp_Compare.go (aT1 : Int) (aW2 : Int) (bT3 : Int) (bW4 : Int) {R : Value → World → Prop} {w : World} (h : stamp_Compare.N aT1 aW2 bT3 bW4 R w) : Calls Try.prog 73 #[.agg #[.int .i64 aT1, .int .i64 aW2], .agg #[.int .i64 bT3, .int .i64 bW4]] w fun e w' => ∃ v, e = .returned v ∧ R v w' := stamp_Compare.ok aT1 aW2 bT3 bW4 (stamp_Compare.up aT1 aW2 bT3 bW4 h)
theorem stamp_Compare.run (aT1 : Int) (aW2 : Int) (bT3 : Int) (bW4 : Int) {V : Value} {Q : World → Prop} {w : World} (h : stamp_Compare.N aT1 aW2 bT3 bW4 (fun v w' => v = V ∧ Q w') w) : Calls Try.prog 73 #[.agg #[.int .i64 aT1, .int .i64 aW2], .agg #[.int .i64 bT3, .int .i64 bW4]] w (Ret V Q) := (stamp_Compare.go aT1 aW2 bT3 bW4 h).mono fun e w' ⟨v, he, hv, hq⟩ => ⟨by rw [he, hv], hq⟩

/-- stamp.Less -/
def stamp_Less.M (aT1 : Int) (aW2 : Int) (bT3 : Int) (bW4 : Int) (R : Value → World → Prop) (w : World) : Prop :=
  thenW (w.alloc (.cells #[.int .i64 aT1, .int .i64 aW2] 37)) fun ww5 =>
  thenW (ww5.alloc (.cells #[.int .i64 bT3, .int .i64 bW4] 37)) fun ww6 =>
  ∃ (xT7 : Int) (xW8 : Int), cellsAt ww6 (blk w.heap.size) [.int .i64 xT7, .int .i64 xW8] 0 ∧
  ∃ (xT9 : Int) (xW10 : Int), cellsAt ww6 (blk ww5.heap.size) [.int .i64 xT9, .int .i64 xW10] 0 ∧
  Calls Try.prog 73 #[.agg #[.int .i64 xT7, .int .i64 xW8], .agg #[.int .i64 xT9, .int .i64 xW10]] ww6 fun ee12 ww13 => ∃ (compare11 : Int), ee12 = .returned (.int .i64 compare11) ∧
  R (.bool (decide (compare11 < 0))) ww13

theorem stamp_Less.eq (aT1 : Int) (aW2 : Int) (bT3 : Int) (bW4 : Int) (R : Value → World → Prop) (w : World) : mfunc Try.prog [] 56 [.agg #[.int .i64 aT1, .int .i64 aW2], .agg #[.int .i64 bT3, .int .i64 bW4]] R w = stamp_Less.M aT1 aW2 bT3 bW4 R w := by kernel_rfl
theorem stamp_Less.ok (aT1 : Int) (aW2 : Int) (bT3 : Int) (bW4 : Int) {R : Value → World → Prop} {w : World} (h : stamp_Less.M aT1 aW2 bT3 bW4 R w) : Calls Try.prog 56 #[.agg #[.int .i64 aT1, .int .i64 aW2], .agg #[.int .i64 bT3, .int .i64 bW4]] w fun e w' => ∃ v, e = .returned v ∧ R v w' :=
  mfunc_ok follows (H := []) (args := [.agg #[.int .i64 aT1, .int .i64 aW2], .agg #[.int .i64 bT3, .int .i64 bW4]]) (by rw [stamp_Less.eq]; exact h)

def stamp_Less.N (aT1 : Int) (aW2 : Int) (bT3 : Int) (bW4 : Int) (R : Value → World → Prop) (w : World) : Prop :=
  ∀ (ww6 : World), Ext no w ww6 →
  Calls Try.prog 73 #[.agg #[.int .i64 aT1, .int .i64 aW2], .agg #[.int .i64 bT3, .int .i64 bW4]] ww6 fun ee10 ww11 => ∃ (compare9 : Int), ee10 = .returned (.int .i64 compare9) ∧
  R (.bool (decide (compare9 < 0))) ww11

theorem stamp_Less.up (aT1 : Int) (aW2 : Int) (bT3 : Int) (bW4 : Int) {R : Value → World → Prop} {w : World} (h : stamp_Less.N aT1 aW2 bT3 bW4 R w) : stamp_Less.M aT1 aW2 bT3 bW4 R w := by
  unfold stamp_Less.M
  unfold stamp_Less.N at h
  refine thenW_in fun ww5 e5 => ?_
  have hb1 := Blk.of_new e5
  have hg1 := ((Ext.refl no w)).size
  have hx5 := (Ext.refl no w).x_alloc e5
  refine thenW_in fun ww6 e6 => ?_
  have hb2 := Blk.of_new e6
  have hg2 := (hx5).size
  have hb1_2 := Nat.ne_of_lt hb1.lt
  have hb1 := hb1.x_alloc e6
  have hx6 := hx5.x_alloc e6
  refine ⟨aT1, aW2, ⟨hb1.celli 0 rfl rfl, hb1.celli 1 rfl rfl, trivial⟩, ?_⟩
  refine ⟨bT3, bW4, ⟨hb2.celli 0 rfl rfl, hb2.celli 1 rfl rfl, trivial⟩, ?_⟩
  have h := h ww6 hx6
  refine h.mono fun ee10 ww11 h => ?_
  obtain ⟨compare9, he, h⟩ := h
  refine ⟨compare9, he, ?_⟩
  exact h

theorem stamp_Less.go (aT1 : Int) (aW2 : Int) (bT3 : Int) (bW4 : Int) {R : Value → World → Prop} {w : World} (h : stamp_Less.N aT1 aW2 bT3 bW4 R w) : Calls Try.prog 56 #[.agg #[.int .i64 aT1, .int .i64 aW2], .agg #[.int .i64 bT3, .int .i64 bW4]] w fun e w' => ∃ v, e = .returned v ∧ R v w' := stamp_Less.ok aT1 aW2 bT3 bW4 (stamp_Less.up aT1 aW2 bT3 bW4 h)
theorem stamp_Less.run (aT1 : Int) (aW2 : Int) (bT3 : Int) (bW4 : Int) {V : Value} {Q : World → Prop} {w : World} (h : stamp_Less.N aT1 aW2 bT3 bW4 (fun v w' => v = V ∧ Q w') w) : Calls Try.prog 56 #[.agg #[.int .i64 aT1, .int .i64 aW2], .agg #[.int .i64 bT3, .int .i64 bW4]] w (Ret V Q) := (stamp_Less.go aT1 aW2 bT3 bW4 h).mono fun e w' ⟨v, he, hv, hq⟩ => ⟨by rw [he, hv], hq⟩

def lessS (t1 w1 t2 w2 : Int) : Bool := decide (t1 < t2) || (decide (t1 = t2) && decide (w1 < w2))
theorem cmp64_F (x y : Int) : cmp_Compare_int64.F x y = if x < y then -1 else if x > y then 1 else 0 := by
  unfold cmp_Compare_int64.F cmp_isNaN_int64.F; simp
theorem cmpInt_F (x y : Int) : cmp_Compare_int.F x y = if x < y then -1 else if x > y then 1 else 0 := by
  unfold cmp_Compare_int.F cmp_isNaN_int.F; simp
theorem Or2_spec {w : World} {q : Nat} {x y : Int} (hb : Blk w q 3 [.int .i64 x, .int .i64 y]) :
    Calls Try.prog 85 #[.slice (some (blk q)) 2 2] w (Ret (.int .i64 (if x ≠ 0 then x else y)) fun w' => w' = w) := by
  refine cmp_Or_int.run _ _ _ ?_
  unfold cmp_Or_int.N
  refine ⟨fun m vs w1 => ∃ t : Nat, vs = [.int .i64 t] ∧ m + t = 2 ∧ w1 = w ∧ (0 < t → x = 0) ∧ (1 < t → y = 0), 2, ⟨0, rfl, rfl, rfl, fun h => absurd h (by decide), fun h => absurd h (by decide)⟩, ?_⟩
  rintro m w1 i ⟨t, hi, hm, rfl, h0, h1⟩
  simp only [List.cons.injEq, Value.int.injEq, true_and, and_true] at hi
  subst hi
  refine ⟨fun ht => ?_, fun ht => ⟨?_, rfl⟩⟩
  · have ht2 : t = 0 ∨ t = 1 := by omega
    rcases ht2 with rfl | rfl
    · refine ⟨_, rfl, by omega, by omega, x, hb.cella (i := 0) rfl, fun hx => ⟨by rw [if_pos hx], rfl⟩, fun hx => ⟨by omega, by omega, m - 1, by omega, 1, rfl, by omega, rfl, fun _ => hx, fun h => absurd h (by decide)⟩⟩
    · refine ⟨_, rfl, by omega, by omega, y, hb.cella (i := 1) rfl, fun hy => ⟨by rw [if_neg (not_not_intro (h0 (by decide)))], rfl⟩, fun hy => ⟨by omega, by omega, m - 1, by omega, 2, rfl, by omega, rfl, fun _ => h0 (by decide), fun _ => hy⟩⟩
  · have : t = 2 := by omega
    subst this
    rw [if_neg (not_not_intro (h0 (by decide))), h1 (by decide)]
theorem Less_spec (w : World) (t1 w1 t2 w2 : Int) : Calls Try.prog 56 #[.agg #[.int .i64 t1, .int .i64 w1], .agg #[.int .i64 t2, .int .i64 w2]] w (Ret (.bool (lessS t1 w1 t2 w2)) fun w' => Ext no w w') := by
  refine stamp_Less.run _ _ _ _ ?_
  unfold stamp_Less.N
  intro w6 X6
  have key : Calls Try.prog 73 #[.agg #[.int .i64 t1, .int .i64 w1], .agg #[.int .i64 t2, .int .i64 w2]] w6 (Ret (.int .i64 (if cmp_Compare_int64.F t1 t2 ≠ 0 then cmp_Compare_int64.F t1 t2 else cmp_Compare_int.F w1 w2)) fun w' => Ext no w6 w') := by
    refine stamp_Compare.run _ _ _ _ ?_
    unfold stamp_Compare.N
    intro w10 q X10 hb _ _
    exact (Or2_spec hb).mono fun e w' ⟨he, hw⟩ => ⟨_, he, rfl, by subst hw; exact X10⟩
  refine key.mono fun e w' ⟨he, X⟩ => ⟨_, he, ?_, X6.trans X⟩
  congr 1
  rw [cmp64_F, cmpInt_F]
  unfold lessS
  by_cases h : t1 < t2
  · simp [h]
  · by_cases h2 : t1 = t2
    · subst h2
      simp
      by_cases h3 : w1 < w2
      · simp [h3]
      · by_cases h4 : w2 < w1
        · simp [h3, h4]
        · simp [h3, h4]
    · have : t1 > t2 := by omega
      simp [h, h2, this]
end Go.Proofs.Ytnppbflccbpoeaa

/- Structs, and rows of structs, that are handed in; cells of a row of structs. -/
set_option linter.unusedSimpArgs false
set_option linter.unusedVariables false
set_option linter.unusedSectionVars false
namespace Go.Mx
/-- cells, one part behind the other. -/
def SeqQ : List (Nat × (World → List Value → Prop)) → World → List Value → Prop
  | [], _, cs => cs = []
  | q :: r, W, cs => ∃ x y, cs = x ++ y ∧ x.length = q.1 ∧ q.2 W x ∧ SeqQ r W y
def FieldsOk (P : Program) : List Field → Nat → List (Nat × (World → List Value → Prop)) → Nat → Prop
  | [], off, [], size => off = size
  | f :: r, off, q :: s, size => (f.offset = off ∧ P.cellsOf f.type = q.1 ∧ Opens P f.type q.2) ∧ FieldsOk P r (off + q.1) s size
  | _, _, _, _ => False
theorem seq_of {P : Program} {W : World} {cs : List Value} : ∀ {l : List Field} {off : Nat} {qs : List (Nat × (World → List Value → Prop))} {size : Nat}, FieldsOk P l off qs size → cs.length = size →
    (∀ (i : Nat) (f : Field), l[i]? = some f → ∀ Q, Opens P f.type Q → Q W ((cs.drop f.offset).take (P.cellsOf f.type))) → off ≤ cs.length → (∀ q ∈ qs, True) → SeqQ qs W (cs.drop off)
  | [], off, [], size, h, hl, _, _, _ => by
    simp only [FieldsOk] at h
    simp only [SeqQ]
    exact List.drop_eq_nil_of_le (by omega)
  | f :: r, off, q :: s, size, h, hl, hf, hle, _ => by
    obtain ⟨⟨h1, h2, h3⟩, h4⟩ := h
    have h0 := hf 0 f rfl q.2 h3
    rw [h1, h2] at h0
    have hsz : ∀ {l : List Field} {off : Nat} {qs : List (Nat × (World → List Value → Prop))}, FieldsOk P l off qs size → off ≤ size := by
      intro l
      induction l with
      | nil => intro off qs h; cases qs with | nil => exact Nat.le_of_eq h | cons _ _ => exact h.elim
      | cons f r ih => intro off qs h; cases qs with | nil => exact h.elim | cons q s => have := ih h.2; omega
    have hle2 := hsz h4
    refine ⟨(cs.drop off).take q.1, cs.drop (off + q.1), ?_, ?_, h0, ?_⟩
    · rw [← List.drop_drop, List.take_append_drop]
    · rw [List.length_take, List.length_drop]; omega
    · exact seq_of h4 hl (fun i f hi => hf (i + 1) f (by simpa using hi)) (by omega) (fun _ _ => trivial)
  | [], _, _ :: _, _, h, _, _, _, _ => h.elim
  | _ :: _, _, [], _, h, _, _, _, _ => h.elim
/-- a struct: its fields, one behind the other. -/
theorem opens_seq {P : Program} {t : TypeId} {fs : Array Field} {size : Nat} {qs : List (Nat × (World → List Value → Prop))} (ht : P.underlying t = some (.struct fs)) (hs : P.cellsOf t = size) (h : FieldsOk P fs.toList 0 qs size) : Opens P t (SeqQ qs) :=
  (opens_struct ht hs).mono fun W cs ⟨hl, hf⟩ => seq_of (off := 0) h hl (fun i f hi => hf i f (by rw [← Array.getElem?_toList]; exact hi)) (Nat.zero_le _) fun _ _ => trivial
/-- a row of structs. -/
theorem opens_rows {P : Program} {t e : TypeId} {size : Nat} {α : Type} {f : α → List Value} {G : World → α → Prop} (ht : P.underlying t = some (.slice e)) (hs : P.cellsOf e = size) (he : Opens P e fun W cs => ∃ x, cs = f x ∧ G W x) :
    Opens P t fun W cs => ∃ (a : Option Addr) (c : Nat) (l : List α), cs = [.slice a l.length c] ∧ l.length ≤ c ∧ c ≤ maxLen ∧ RowAt W a (l.flatMap f) ∧ ∀ x ∈ l, G W x :=
  (opens_slice (size := size) ht hs he).mono fun W cs ⟨a, l, c, rows, h1, h2, h3, h4, h5, h6⟩ => by
    obtain ⟨xs, h7, h8⟩ := rows_of (rows := rows) f (G W) fun r hr => (h6 r hr).2
    subst h7
    rw [List.length_map] at h4
    subst h4
    exact ⟨a, c, xs, h1, h2, h3, by rw [List.flatMap_def]; exact h5, h8⟩
section
variable {α : Type} {f : α → List Value} {n : Nat} {w : World} {a : Option Addr} {l : List α}
theorem flat_length (hf : ∀ x, (f x).length = n) (l : List α) : (l.flatMap f).length = l.length * n := by
  induction l with
  | nil => simp
  | cons x r ih => rw [List.flatMap_cons, List.length_append, ih, hf, List.length_cons, Nat.succ_mul]; omega
theorem flat_get (hf : ∀ x, (f x).length = n) : ∀ {l : List α} {i : Nat} {x : α}, l[i]? = some x → ∀ j, j < n → (l.flatMap f)[i * n + j]? = (f x)[j]?
  | [], i, x, hi, j, hj => by simp at hi
  | a :: r, 0, x, hi, j, hj => by
    simp only [List.getElem?_cons_zero, Option.some.injEq] at hi
    subst hi
    rw [List.flatMap_cons, Nat.zero_mul, Nat.zero_add, List.getElem?_append_left (by rw [hf]; exact hj)]
  | a :: r, i + 1, x, hi, j, hj => by
    simp only [List.getElem?_cons_succ] at hi
    rw [List.flatMap_cons, List.getElem?_append_right (by rw [hf, Nat.succ_mul]; omega), show (i + 1) * n + j - (f a).length = i * n + j by rw [hf, Nat.succ_mul]; omega]
    exact flat_get hf hi j hj
/-- a cell of a struct in a row. -/
theorem RowAt.fcell (hf : ∀ x, (f x).length = n) {ad : Addr} (h : RowAt w (some ad) (l.flatMap f)) {i : Nat} {x : α} (hi : l[i]? = some x) (j : Nat) {v : Value} (hv : (f x)[j]? = some v) : w.cell? ((ad.add (i * n)).add j) = some v := by
  rw [add_add]
  have hj : j < n := by rw [← hf x]; exact (List.getElem?_eq_some_iff.1 hv).1
  exact h.at_ ((flat_get hf hi j hj).trans hv)
theorem RowAt.faddr (hf : ∀ x, (f x).length = n) (hn : 0 < n) (h : RowAt w a (l.flatMap f)) {i : Nat} (hi : i < l.length) : ∃ ad, a = some ad := h.addr fun e => by
  have := flat_length hf l
  rw [e, List.length_nil] at this
  rcases Nat.mul_eq_zero.1 this.symm with h | h <;> omega
end
end Go.Mx

/- Rows that grow: of an owner, also cut off; and of a function's own. -/
set_option linter.unusedSimpArgs false
set_option linter.unusedVariables false
set_option linter.unusedSectionVars false
namespace Go.Mx
section
variable {K K1 : Nat → Prop} {w w1 w' w0 : World} {o o1 o' o0 : Own} {p q j k N : Nat} {e : TypeId} {size n c : Nat} {a : Option Addr} {cs : List Value}
/-- the row of an owner, or what was cut off of it. -/
def GrowsF (e size : Nat) (w : World) (o : Own) (k : Nat) (a : Option Addr) (n c : Nat) (cs : List Value) : Prop :=
  Grows e size w o k a n c cs ∨ (n = c ∧ RowAt w a cs ∧ cs.length = n * size ∧ ∃ ad, a = some ad ∧ o ad.block = some k ∧ ad.block < w.heap.size)
theorem GrowsF.row (h : GrowsF e size w o k a n c cs) : RowAt w a cs := h.elim Grows.row fun h => h.2.1
theorem GrowsF.len (h : GrowsF e size w o k a n c cs) : cs.length = n * size := h.elim (fun h => h.own.1) fun h => h.2.2.1
theorem GrowsF.le (h : GrowsF e size w o k a n c cs) : n ≤ c := h.elim (fun h => (own_fresh h.own).1) fun h => Nat.le_of_eq h.1
theorem GrowsF.tg (h : GrowsF e size w o k a n c cs) : ∀ ad, a = some ad → o ad.block = some k ∧ ad.block < w.heap.size := h.elim (fun h => h.tg) fun ⟨_, _, _, ad, ha, h⟩ ad' ha' => by rw [ha] at ha'; cases ha'; exact h
theorem GrowsF.step (h : GrowsF e size w o k a n c cs) (s : Step K w o w' o') (hk : ¬ K k) : GrowsF e size w' o' k a n c cs := by
  rcases h with h | ⟨h1, h2, h3, ad, ha, h4, h5⟩
  · exact .inl (h.step s hk)
  · exact .inr ⟨h1, h2.ext s.ext fun ad' ha' ⟨i, hi, hK⟩ => by rw [ha] at ha'; cases ha'; rw [h4] at hi; cases hi; exact hk hK, h3, ad, ha, (s.own h5).trans h4, Nat.lt_of_lt_of_le h5 s.size⟩
theorem GrowsF.keep (h : GrowsF e size w o k a n c cs) {m : Nat → Prop} (x : Ext m w w') (hm : ∀ ad, a = some ad → ¬ m ad.block) (ho : ∀ b, b < w.heap.size → o' b = o b) : GrowsF e size w' o' k a n c cs := by
  rcases h with h | ⟨h1, h2, h3, ad, ha, h4, h5⟩
  · exact .inl (h.keep x hm ho)
  · exact .inr ⟨h1, h2.ext x hm, h3, ad, ha, (ho _ h5).trans h4, Nat.lt_of_lt_of_le h5 x.size⟩
/-- what is cut off behind some. -/
theorem GrowsF.cut (h : GrowsF e size w o k a n c cs) {i : Nat} (hi : i ≤ n) (ha : a ≠ none) : GrowsF e size w o k a i i (cs.take (i * size)) := by
  obtain ⟨ad, ha⟩ := Option.ne_none_iff_exists'.1 ha
  refine .inr ⟨rfl, h.row.take _, ?_, ad, ha, h.tg ad ha⟩
  rw [List.length_take, h.len]
  have := Nat.mul_le_mul_right size hi
  omega
theorem GrowsF.push {P : Program} {t ty : TypeId} {i : TypeInfo} {z : Value} {bytes : Nat} (ht : P.underlying t = some (.slice e)) (hi : P.info? e = some i) (hz : i.zero = some z)
    (hsize : i.size = size) (hby : i.bytes = bytes) (hzs : z.cells.size = size) (hsz : 0 < size) (h : GrowsF e size w o k a n c cs) (ok : Tags w o) (hk : k < w.heap.size)
    {xa : Option Addr} {m xc : Nat} {news : List Value} (hl : news.length = m * size) (hnews : RowAt w xa news) (h1 : ∀ u ∈ news, u.oneCell' = true) (hm : 0 < m) (hb : (n + m) * bytes ≤ 140737488355328) (h63 : n + m ≤ 1000000000) :
    ∃ a' c' w' o', (Builtin.append_ #[t, t] ty #[.slice a n c, .slice xa m xc]).run P w = .ok (.slice a' (n + m) c') w' ∧ Step (fun j => j = k) w o w' o' ∧ GrowsF e size w' o' k a' (n + m) c' (cs ++ news) ∧
      (∀ b, b < w.heap.size → (∀ ad, a = some ad → b ≠ ad.block) → w'.heap[b]? = w.heap[b]?) ∧ (∀ ad, a' = some ad → (∃ b, a = some b ∧ ad.block = b.block) ∨ ad.block = w.heap.size) := by
  rcases h with h | ⟨h1', h2, h3, ad, ha, h4, h5⟩
  · obtain ⟨a', c', w', o', q1, q2, q3, q4, q5⟩ := h.push (ty := ty) ht hi hz hsize hby hzs hsz ok hk hl hnews h1 hb (by omega)
    exact ⟨a', c', w', o', q1, q2, .inl q3, q4, q5⟩
  · subst h1'
    subst ha
    obtain ⟨xd, rfl⟩ := hnews.addr fun e => by
      have : 0 < m * size := Nat.mul_pos hm hsz
      rw [e] at hl
      have : ([] : List Value).length = 0 := rfl
      omega
    obtain ⟨v', w', hr, ho, hg⟩ := run_append_arg_grows (P := P) w t ty e i z size bytes ht hi hz hsize hby hzs hsz ad n n cs h3 (fun j u hu => h2.at_ hu) xd m xc news hl (fun j u hu => hnews.at_ hu) (by omega) (by unfold maxLen; omega) hb
    obtain ⟨a', c', hv, hrow⟩ := RowAt.of_owns ho
    subst hv
    have X : Ext no w w' := Ext.of_grown hg fun q hq => by cases hq
    have hfr := (own_fresh ho).2
    have s := (Step.of_no X ok)
    rcases ho.2 with ⟨hv, h0⟩ | ⟨g, cap, cur, hv, hb1, hg1, _⟩
    · omega
    · cases hv
      have hgs := hfr _ rfl
      refine ⟨_, _, w', tag (grow w o) g k, hr, (s.tag hb1 (Nat.lt_of_lt_of_le hk X.size)).none, .inl ⟨⟨ho.1, ?_⟩, fun ad' ha' => ?_⟩, fun b hb _ => X.block b hb id, fun ad' ha' => ?_⟩
      · rcases ho.2 with h | ⟨g, cap, cur, hv, hb1, h⟩
        · exact .inl h
        · exact .inr ⟨g, cap, cur, hv, Nat.zero_le _, h⟩
      · cases ha'; exact ⟨tag_self, hgs⟩
      · cases ha'
        refine .inr ?_
        -- the block is the next one: of no more than one new block
        have hr' := run_append_grow (P := P) w t ty e i z ht hi hz ad n n cs (by rw [hsize]; exact h3) (fun j u hu => h2.at_ hu) xd m xc news (by rw [hsize]; exact hl) (fun j u hu => hnews.at_ hu) (by omega) (by omega) (growslice_fits (by omega) (by rw [hby]; exact hb))
        rw [hr] at hr'
        injection hr' with hr' _
        injection hr' with hr' _ _
        injection hr' with hr'
        injection hr'
/-- blocks of a function's own, of before a call or behind it. -/
def PrivJ (L : List Nat) (w w' : World) (l : List Nat) : Prop := ∀ p ∈ l, (p ∈ L ∨ w.heap.size ≤ p) ∧ p < w'.heap.size
theorem PrivJ.nil {L : List Nat} : PrivJ L w w' [] := fun p hp => by simp at hp
theorem PrivJ.cons {L l : List Nat} (h1 : p ∈ L ∨ w.heap.size ≤ p) (h2 : p < w'.heap.size) (h : PrivJ L w w' l) : PrivJ L w w' (p :: l) := fun q hq => by
  rcases List.mem_cons.1 hq with rfl | hq
  · exact ⟨h1, h2⟩
  · exact h q hq
theorem Step.join {L l : List Nat} (X : Ext (fun b => b ∈ L) w w') (ok : Tags w o) (M : Mine L w o) (hp : PrivJ L w w' l) : Step (fun j => j ∈ L) w o w' (tags w o l) ∧ Mine l w' (tags w o l) := by
  refine ⟨⟨X.mono fun b hb hl => ⟨b, (M b hb).2, hb⟩, fun b hb => if_pos hb, ok, fun b j hb hj => ?_⟩, fun p hq => ⟨(hp p hq).2, ?_⟩⟩
  · unfold tags at hj
    split at hj
    · rename_i hl; exact Nat.lt_of_lt_of_le (ok b j hl hj) X.size
    · split at hj
      · cases hj; exact hb
      · cases hj
  · unfold tags
    rcases (hp p hq).1 with h | h
    · rw [if_pos (M p h).1]; exact (M p h).2
    · rw [if_neg (by omega), if_pos hq]
/-- .. nothing of which is asked for later. -/
theorem Step.joins {L : List Nat} (X : Ext (fun b => b ∈ L) w w') (ok : Tags w o) (M : Mine L w o) : Step (fun j => j ∈ L) w o w' (grow w o) := Step.stores X ok M fun _ h => h
/-- a row of a function's own: nothing yet, or in a block that came behind N. -/
def LRow (e size N : Nat) (w : World) (o : Own) (a : Option Addr) (n c : Nat) (cs : List Value) : Prop :=
  (a = none ∧ n = 0 ∧ c = 0 ∧ cs = []) ∨ ∃ k, N ≤ k ∧ k < w.heap.size ∧ Grows e size w o k a n c cs
theorem LRow.nil (e size N : Nat) (w : World) (o : Own) : LRow e size N w o none 0 0 [] := .inl ⟨rfl, rfl, rfl, rfl⟩
theorem LRow.row (h : LRow e size N w o a n c cs) : RowAt w a cs := by
  rcases h with ⟨rfl, rfl, rfl, rfl⟩ | ⟨k, _, _, h⟩
  · exact RowAt.nil _ _
  · exact h.row
theorem LRow.len (h : LRow e size N w o a n c cs) : cs.length = n * size := by
  rcases h with ⟨rfl, rfl, rfl, rfl⟩ | ⟨k, _, _, h⟩
  · simp
  · exact h.own.1
theorem LRow.le (h : LRow e size N w o a n c cs) : n ≤ c := by
  rcases h with ⟨rfl, rfl, rfl, rfl⟩ | ⟨k, _, _, h⟩
  · exact Nat.le_refl _
  · exact (own_fresh h.own).1
theorem LRow.step (h : LRow e size N w o a n c cs) (s : Step K w o w' o') (hk : ∀ k, K k → k < N ∨ w.heap.size ≤ k) : LRow e size N w' o' a n c cs := by
  rcases h with h | ⟨k, h1, h2, h⟩
  · exact .inl h
  · exact .inr ⟨k, h1, Nat.lt_of_lt_of_le h2 s.size, h.step s fun hK => by rcases hk k hK with h | h <;> omega⟩
theorem LRow.push {P : Program} {t ty : TypeId} {i : TypeInfo} {z : Value} {bytes : Nat} (ht : P.underlying t = some (.slice e)) (hi : P.info? e = some i) (hz : i.zero = some z)
    (hsize : i.size = size) (hby : i.bytes = bytes) (hzs : z.cells.size = size) (hsz : 0 < size) (h : LRow e size N w o a n c cs) (ok : Tags w o) (hp : N ≤ p) (hp' : p < w.heap.size)
    {xa : Option Addr} {m xc : Nat} {news : List Value} (hl : news.length = m * size) (hnews : RowAt w xa news) (h1 : ∀ u ∈ news, u.oneCell' = true) (hb : (n + m) * bytes ≤ 140737488355328) (h63 : n + m ≤ 9223372036854775807) :
    ∃ a' c' w' o', (Builtin.append_ #[t, t] ty #[.slice a n c, .slice xa m xc]).run P w = .ok (.slice a' (n + m) c') w' ∧ Step (fun j => N ≤ j) w o w' o' ∧ LRow e size N w' o' a' (n + m) c' (cs ++ news) ∧ Ext (fun b => ∃ ad, a = some ad ∧ b = ad.block) w w' := by
  have key : ∀ k, N ≤ k → k < w.heap.size → Grows e size w o k a n c cs → _ := fun k hk hk' hg => hg.push (ty := ty) ht hi hz hsize hby hzs hsz ok hk' (xc := xc) hl hnews h1 hb h63
  have fin : ∀ k, N ≤ k → k < w.heap.size → Grows e size w o k a n c cs → ∃ a' c' w' o', (Builtin.append_ #[t, t] ty #[.slice a n c, .slice xa m xc]).run P w = .ok (.slice a' (n + m) c') w' ∧ Step (fun j => N ≤ j) w o w' o' ∧ LRow e size N w' o' a' (n + m) c' (cs ++ news) ∧ Ext (fun b => ∃ ad, a = some ad ∧ b = ad.block) w w' := fun k hk hk' hg => by
    obtain ⟨a', c', w', o', r1, r2, r3, r4, _⟩ := key k hk hk' hg
    refine ⟨a', c', w', o', r1, r2.mono fun j hj _ => by omega, .inr ⟨k, hk, Nat.lt_of_lt_of_le hk' r2.size, r3⟩, ⟨r2.ext.os, r2.ext.tape, r2.ext.output, r2.ext.size, fun b hb hn => r4 b hb fun ad ha hb' => hn ⟨ad, ha, hb'⟩⟩⟩
  rcases h with ⟨rfl, rfl, rfl, rfl⟩ | ⟨k, h1, h2, h⟩
  · exact fin p hp hp' (Grows.nil _ _ _ _ _)
  · exact fin k h1 h2 h
end
end Go.Mx

/- Chain: a log, and what its calls do (the program's). -/
set_option linter.unusedVariables false
set_option linter.unusedSimpArgs false
set_option maxRecDepth 20000
set_option maxHeartbeats 2000000
namespace Go.Proofs.Ytnppbflccbpoeaa
open Go Go.Mx Go.Proofs
open W (OwnB GivesW numR countR doneR zig unzig intR)
theorem inf39 : (Try.prog.info? 39).map (fun i => (i.zero, i.size, i.bytes)) = some (some (.agg #[.int .i64 0, .int .i64 0, .int .u64 0, .int .i64 0, .int .i64 0, .int .i64 0, .slice none 0 0, .int .u64 0]), 8, 80) := by kernel_rfl
/-- a log, as lists. -/
structure CL where
  wr : Int
  pb : Int
  es : List Ent
  sum : Int
structure PLog (w : World) (o : Own) (q k : Nat) (L : CL) : Prop where
  own : o q = some q
  few : L.es.length ≤ 200
  st : ∃ la lc, ∃ l : List PE, l.map PE.e = L.es ∧ Blk w q 90 [.pointer (some (blk k)), .int .i64 L.wr, .int .u64 L.pb, .slice la l.length lc, .int .u64 L.sum] ∧
    GrowsF 39 8 w o q la l.length lc (PE.Cs l) ∧ (∀ ad, la = some ad → ad.block ≠ q) ∧ ∀ x ∈ l, x.ok w o
def rightC (S : OS) (L : CL) (e : Ent) : Int := if entRight e = true then (if e.w = L.wr then (if holdsE S L.pb e = true then 0 else 6) else 20) else 1
def placeC (L : CL) (e : Ent) : Int := if e.i > L.es.length then 7 else if e.i = L.es.length then 0 else if L.es[e.i.toNat]? = some e then 8 else 9
def behindC (L : CL) (e : Ent) : Int := if e.pv = L.sum then (match L.es.getLast? with | none => 0 | some x => if lessS x.t x.tw e.t e.tw = true then 0 else 2) else 5
def checkC (S : OS) (L : CL) (e : Ent) : Int := if rightC S L e ≠ 0 then rightC S L e else if placeC L e ≠ 0 then placeC L e else behindC L e
def putC (S : OS) (L : CL) (e : Ent) : CL × OS := ({ L with es := L.es ++ [e], sum := (sumE S e).1.1 }, (sumE S e).2)
def acceptC (S : OS) (L : CL) (e : Ent) : Int × CL × OS := if checkC S L e = 0 then (0, putC S L e) else (checkC S L e, L, S)
def nextE (L : CL) (t tw ep : Int) (body : List UInt8) : Ent := ⟨L.wr, L.es.length, L.sum, t, tw, ep, body, 0⟩
def issueC (S : OS) (L : CL) (sec t tw ep : Int) (body : List UInt8) : (Ent × Int) × CL × OS :=
  if L.es.length ≥ 200 then ((Ent.zero, 3), L, S)
  else if entRight (nextE L t tw ep body) = true then
    (if behindC L (nextE L t tw ep body) ≠ 0 then ((Ent.zero, behindC L (nextE L t tw ep body)), L, S)
     else if (signE S sec (nextE L t tw ep body)).1.2 ≠ 0 then ((Ent.zero, (signE S sec (nextE L t tw ep body)).1.2), L, (signE S sec (nextE L t tw ep body)).2)
     else (((signE S sec (nextE L t tw ep body)).1.1, 0), putC (signE S sec (nextE L t tw ep body)).2 L (signE S sec (nextE L t tw ep body)).1.1))
  else ((Ent.zero, 1), L, S)
section
variable {w w' w1 : World} {o o' o1 : Own} {q k n : Nat} {K : Nat → Prop} {S : OS} {L : CL} {e : Ent} {a : Option Addr} {c : Nat}
theorem PLog.lt (h : PLog w o q k L) : q < w.heap.size := by obtain ⟨_, _, _, _, hb, _⟩ := h.st; exact hb.lt
theorem PLog.step (h : PLog w o q k L) (s : Step K w o w' o') (hq : ¬ K q) : PLog w' o' q k L := by
  have hlt := h.lt
  obtain ⟨la, lc, l, h0, h1, h2, h3, h4⟩ := h.st
  exact ⟨(s.own hlt).trans h.own, h.few, la, lc, l, h0, s.blk h1 h.own hq, h2.step s hq, h3, fun x hx => (h4 x hx).step s⟩
theorem PLog.new {w w' : World} {o : Own} {q k : Nat} {wr pb : Int} (X : Ext no w w') (hb : Blk w' q 90 [.pointer (some (blk k)), .int .i64 wr, .int .u64 pb, .slice none 0 0, .int .u64 0]) (h1 : w.heap.size ≤ q) (h2 : q < w'.heap.size) (ok : Tags w o) :
    ∃ o', Step no w o w' o' ∧ PLog w' o' q k ⟨wr, pb, [], 0⟩ :=
  ⟨_, (Step.of_no X ok).tag h1 h2, tag_self, Nat.zero_le _, none, 0, [], rfl, hb, .inl (Grows.nil _ _ _ _ _), fun ad h => (by cases h), fun x h => (by cases h)⟩
theorem getElem_map_e {l : List PE} {es : List Ent} (h : l.map PE.e = es) (i : Nat) : es[i]? = (l[i]?).map PE.e := by rw [← h, List.getElem?_map]
theorem len_map_e {l : List PE} {es : List Ent} (h : l.map PE.e = es) : l.length = es.length := by rw [← h, List.length_map]
theorem cNew_spec {w : World} {o : Own} {k : Nat} (ok : Tags w o) (wr pb : Int) :
    Calls Try.prog 13 #[.pointer (some (blk k)), .int .i64 wr, .int .u64 pb] w (fun x w' => (¬ (0 ≤ wr ∧ wr < 8) ∧ x = .returned (.tuple #[.pointer none, .int .i64 1]) ∧ w' = w) ∨ ((0 ≤ wr ∧ wr < 8) ∧ ∃ q o', x = .returned (.tuple #[.pointer (some (blk q)), .int .i64 0]) ∧ w.heap.size ≤ q ∧ Step no w o w' o' ∧ PLog w' o' q k ⟨wr, pb, [], 0⟩)) := by
  refine (chain_New.go _ _ _ (R := fun v w' => (¬ (0 ≤ wr ∧ wr < 8) ∧ v = (.tuple #[.pointer none, .int .i64 1]) ∧ w' = w) ∨ ((0 ≤ wr ∧ wr < 8) ∧ ∃ q o', v = (.tuple #[.pointer (some (blk q)), .int .i64 0]) ∧ w.heap.size ≤ q ∧ Step no w o w' o' ∧ PLog w' o' q k ⟨wr, pb, [], 0⟩)) ?_).mono fun x w' ⟨v, he, h⟩ => by
    rcases h with ⟨h1, h2, h3⟩ | ⟨h0, q, o', h1, h2⟩
    · exact .inl ⟨h1, by rw [he, h2], h3⟩
    · exact .inr ⟨h0, q, o', by rw [he, h1], h2⟩
  unfold chain_New.N
  refine ⟨fun h => .inl ⟨by omega, rfl, rfl⟩, fun h1 => ⟨fun h => .inl ⟨by omega, rfl, rfl⟩, fun h2 => ⟨fun h => (by cases h), fun _ w7 q X hb hq hq' => ?_⟩⟩⟩
  obtain ⟨o', s, p⟩ := PLog.new X hb hq hq' ok
  exact .inr ⟨⟨h1, h2⟩, q, o', rfl, hq, s, p⟩
theorem cClone_spec {w : World} {a : Option Addr} {c : Nat} {bs : List UInt8} (h : RowAt w a (bytesV bs)) (hl : bs.length ≤ 1000000) :
    Calls Try.prog 60 #[.slice a bs.length c] w (fun e w' => ∃ a' c', e = .returned (.slice a' bs.length c') ∧ OwnB w.heap.size w' a' c' bs ∧ Ext no w w') := by
  refine (slices_Clone_byte_byte.go _ _ _ (R := fun v w' => ∃ a' c', v = (.slice a' bs.length c') ∧ OwnB w.heap.size w' a' c' bs ∧ Ext no w w') ?_).mono fun e w' ⟨v, he, a, c, hv, hw⟩ => ⟨a, c, by rw [he, hv], hw⟩
  unfold slices_Clone_byte_byte.N
  refine ⟨fun hn => ?_, fun hn w2 q X hb hq hq' => ?_⟩
  · subst hn
    have : bs = [] := by simpa [bytesV] using h.none_nil
    subst this
    exact ⟨none, 0, rfl, OwnB.nil _ _, Ext.refl _ _⟩
  · have hO : OwnB w.heap.size w2 (some (blk q)) 0 [] := ⟨owns_of_blk hb rfl (Nat.zero_le _), fun ad ha => by cases ha; exact ⟨hq, hq'⟩⟩
    obtain ⟨a', c', w', hr, hO', hx⟩ := hO.append (t := 24) (ty := 24) Try.underlying24 X.size (xc := c) (h.no X) (by simp; omega)
    rw [List.nil_append] at hr hO'
    exact ⟨a', _, c', w', hr, a', c', rfl, hO', X.then hx fun b hb => .inr hb⟩
theorem cOwn_spec (ok : Tags w o) (h : Row w o a (bytesV e.body)) (hl : e.body.length ≤ 1000000) :
    Calls Try.prog 42 #[entV e a c] w (fun x w' => ∃ o' a' c', x = .returned (entV e a' c') ∧ Step no w o w' o' ∧ Row w' o' a' (bytesV e.body) ∧ e.body.length ≤ c') := by
  refine (chain_own.go e.w e.i e.pv e.t e.tw e.ep a e.body.length c e.sg (R := fun v w' => ∃ o' a' c', v = (entV e a' c') ∧ Step no w o w' o' ∧ Row w' o' a' (bytesV e.body) ∧ e.body.length ≤ c') ?_).mono fun x w' ⟨v, he, o', a, c, hv, hw⟩ => ⟨o', a, c, by rw [he, hv], hw⟩
  unfold chain_own.N
  intro w10 p11 p12 X10 hp
  obtain ⟨s10, M10⟩ := Step.priv X10 hp ok
  have g11 := hp p11 (by simp)
  have g12 := hp p12 (by simp)
  refine (cClone_spec (h.step s10).1 hl).mono fun x w15 ⟨ca, cc, he, hO, X15⟩ => ⟨_, _, _, he, X15.kept, fun w24 X24 => ?_⟩
  have s15 := Step.of_no X15 s10.ok
  have s24 := Step.stores X24 s15.ok (M10.step s15) (by simp [or_comm])
  exact ⟨_, ca, cc, rfl, (s10.trans s15).trans' s24 (fun i hi => .inr (by simp at hi; omega)), (OwnB.tight hO (Nat.le_refl _)).step s24, hO.le⟩
theorem cright_spec (P : PLog w o q k L) (h : POrc w o k S) (ok : Tags w o) (hf : entRight e = true → e.fit) (hb : RowAt w a (bytesV e.body)) :
    Calls Try.prog 48 #[.pointer (some (blk q)), entV e a c] w (Ret (.int .i64 (rightC S L e)) fun w' => Ext no w w') := by
  refine chain_Log_right.run (some (blk q)) e.w e.i e.pv e.t e.tw e.ep a e.body.length c e.sg ?_
  unfold chain_Log_right.N
  rw [entRight_F]
  obtain ⟨la, lc, l, h0, h1, h2, h3, h4⟩ := P.st
  refine ⟨fun hr w11 X => ⟨by unfold rightC; rw [if_neg (by rw [hr]; decide)], X⟩, fun hr => ⟨_, rfl, _, h1.cella (i := 1) rfl, fun hw w14 X => ⟨by unfold rightC; rw [if_pos hr, if_neg hw], X⟩, fun hw => ⟨_, h1.cella (i := 0) rfl, _, h1.cella (i := 2) rfl, fun w20 X20 => ?_⟩⟩⟩
  have s20 := Step.of_no X20 ok
  refine (HoldsO (h.step s20 id) s20.ok L.pb (e := e) hf (hb.no X20)).mono fun x w28 ⟨he, X28⟩ => ⟨_, he, fun hh => ⟨?_, X20.trans X28⟩, fun hh => ⟨?_, X20.trans X28⟩⟩
  · unfold rightC; rw [if_pos hr, if_pos hw, if_neg (by rw [hh]; decide)]
  · unfold rightC; rw [if_pos hr, if_pos hw, if_pos hh]
theorem cplace_spec (P : PLog w o q k L) (h0 : 0 ≤ e.i) (hb : RowAt w a (bytesV e.body)) :
    Calls Try.prog 49 #[.pointer (some (blk q)), entV e a c] w (Ret (.int .i64 (placeC L e)) fun w' => Ext no w w') := by
  refine chain_Log_place.run (some (blk q)) e.w e.i e.pv e.t e.tw e.ep a e.body.length c e.sg ?_
  unfold chain_Log_place.N
  obtain ⟨la, lc, l, g0, h1, h2, h3, h4⟩ := P.st
  have hl := len_map_e g0
  unfold placeC
  rw [← hl]
  refine ⟨_, rfl, la, l.length, lc, h1.cella (i := 3) rfl, fun hg w10 X => ⟨by rw [if_pos hg], X⟩, fun hg => ⟨fun he w10 X => ⟨by rw [if_neg (by omega), if_pos he], X⟩, fun hne => ?_⟩⟩
  have hi : e.i.toNat < l.length := by omega
  have hgx : l[e.i.toNat]? = some l[e.i.toNat] := List.getElem?_eq_getElem hi
  have hpk := h4 _ (List.getElem_mem hi)
  generalize l[e.i.toNat] = x at *
  obtain ⟨ad, rfl⟩ := h2.row.faddr PE.len (by decide) hi
  refine ⟨some ad, l.length, lc, h1.cella (i := 3) rfl, ad, rfl, h0, by omega, x.e.w, x.e.i, x.e.pv, x.e.t, x.e.tw, x.e.ep, x.a, x.e.body.length, x.c, x.e.sg, PE.loads h2.row rfl hgx, fun w18 X18 => ?_⟩
  refine (ESame_spec (e := x.e) (f := e) (hpk.1.1.no X18) (hb.no X18)).mono fun z w34 ⟨he, X34⟩ => ⟨_, he, fun hs => ⟨?_, X18.trans X34⟩, fun hs => ⟨?_, X18.trans X34⟩⟩
  · rw [if_neg (by omega), if_neg hne, getElem_map_e g0, hgx, if_pos (by rw [Option.map_some, of_decide_eq_true hs])]
  · rw [if_neg (by omega), if_neg hne, getElem_map_e g0, hgx, if_neg (by rw [Option.map_some]; intro h; injection h with h; exact of_decide_eq_false hs h)]
theorem cbehind_spec (P : PLog w o q k L) :
    Calls Try.prog 39 #[.pointer (some (blk q)), entV e a c] w (Ret (.int .i64 (behindC L e)) fun w' => Ext no w w') := by
  refine chain_Log_behind.run (some (blk q)) e.w e.i e.pv e.t e.tw e.ep a e.body.length c e.sg ?_
  unfold chain_Log_behind.N
  obtain ⟨la, lc, l, g0, h1, h2, h3, h4⟩ := P.st
  have hl := len_map_e g0
  have hfew := P.few
  refine ⟨_, rfl, la, l.length, lc, h1.cella (i := 3) rfl, _, h1.cella (i := 4) rfl, fun hp w14 X => ⟨by unfold behindC; rw [if_neg hp], X⟩, fun hp => ⟨fun hn => ?_, fun hn w19 X => ⟨?_, X⟩⟩⟩
  · have hi : l.length - 1 < l.length := by omega
    have hgx : l[l.length - 1]? = some l[l.length - 1] := List.getElem?_eq_getElem hi
    generalize l[l.length - 1] = x at *
    obtain ⟨ad, rfl⟩ := h2.row.faddr PE.len (by decide) hi
    have hlast : L.es.getLast? = some x.e := by rw [List.getLast?_eq_getElem?, getElem_map_e g0, ← hl, hgx]; rfl
    have e1 : ((l.length : Int) - 1).toNat = l.length - 1 := by omega
    have c3 := PE.cell h2.row rfl hgx (j := 3) (v := .int .i64 x.e.t) rfl
    have c4 := PE.cell h2.row rfl hgx (j := 4) (v := .int .i64 x.e.tw) rfl
    refine ⟨some ad, l.length, lc, h1.cella (i := 3) rfl, by omega, by omega, ad, rfl, by omega, by omega, x.e.t, x.e.tw, ⟨by rw [e1, add_add]; exact c3, by rw [e1, add_add]; exact c4, trivial⟩, fun w19 X19 => ?_⟩
    refine (Less_spec w19 x.e.t x.e.tw e.t e.tw).mono fun z w30 ⟨he, X30⟩ => ⟨_, he, fun hs => ⟨?_, X19.trans X30⟩, fun hs => ⟨?_, X19.trans X30⟩⟩
    · unfold behindC; rw [if_pos hp, hlast]; simp only []; rw [if_neg (by rw [hs]; decide)]
    · unfold behindC; rw [if_pos hp, hlast]; simp only []; rw [if_pos hs]
  · have : L.es = [] := List.eq_nil_of_length_eq_zero (by omega)
    unfold behindC; rw [if_pos hp, this]; rfl
theorem rightC_right (h : rightC S L e = 0) : entRight e = true := by
  unfold rightC at h
  by_cases hr : entRight e = true
  · exact hr
  · rw [if_neg hr] at h; cases h
theorem cCheck_spec (P : PLog w o q k L) (h : POrc w o k S) (ok : Tags w o) (hf : entRight e = true → e.fit) (hb : RowAt w a (bytesV e.body)) :
    Calls Try.prog 26 #[.pointer (some (blk q)), entV e a c] w (Ret (.int .i64 (checkC S L e)) fun w' => Ext no w w') := by
  refine chain_Log_Check.run (some (blk q)) e.w e.i e.pv e.t e.tw e.ep a e.body.length c e.sg ?_
  unfold chain_Log_Check.N
  refine ⟨fun h => (by cases h), fun _ w10 p13 X10 hp => ?_⟩
  refine ⟨fun m vs w1 => ∃ t : Nat, vs = [.int .i64 t] ∧ m + t = 3 ∧ Ext no w w1 ∧ (0 < t → rightC S L e = 0) ∧ (1 < t → placeC L e = 0) ∧ (2 < t → behindC L e = 0), 3, ⟨0, rfl, rfl, X10, fun h => absurd h (by decide), fun h => absurd h (by decide), fun h => absurd h (by decide)⟩, ?_⟩
  rintro m w1 i ⟨t, hi, hm, X1, c0, c1, c2⟩
  simp only [List.cons.injEq, Value.int.injEq, true_and, and_true] at hi
  subst hi
  have s1 := Step.of_no X1 ok
  refine ⟨fun ht => ⟨by omega, by omega, fun h0 => ?_, fun h0 => ?_, fun h0 => ?_⟩, fun ht => ?_⟩
  · obtain rfl : t = 0 := by omega
    refine (cright_spec (P.step s1 id) (h.step s1 id) s1.ok hf (hb.no X1)).mono fun x w21 ⟨he, X21⟩ => ⟨_, he, X21.kept, fun hr => ⟨by unfold checkC; rw [if_pos hr], X1.trans X21⟩, fun hr => ⟨by omega, by omega, m - 1, by omega, 1, rfl, by omega, X1.trans X21, fun _ => hr, fun h => absurd h (by decide), fun h => absurd h (by decide)⟩⟩
  · obtain rfl : t = 1 := by omega
    have hr := c0 (by decide)
    refine (cplace_spec (P.step s1 id) ((entRight_iff _).1 (rightC_right hr)).2.2.1 (hb.no X1)).mono fun x w21 ⟨he, X21⟩ => ⟨_, he, X21.kept, fun hq => ⟨by unfold checkC; rw [if_neg (not_not_intro hr), if_pos hq], X1.trans X21⟩, fun hq => ⟨by omega, by omega, m - 1, by omega, 2, rfl, by omega, X1.trans X21, fun _ => hr, fun _ => hq, fun h => absurd h (by decide)⟩⟩
  · obtain rfl : t = 2 := by omega
    have hr := c0 (by decide)
    have hq := c1 (by decide)
    refine (cbehind_spec (P.step s1 id)).mono fun x w21 ⟨he, X21⟩ => ⟨_, he, X21.kept, fun hz => ⟨by unfold checkC; rw [if_neg (not_not_intro hr), if_neg (not_not_intro hq)], X1.trans X21⟩, fun hz => ⟨by omega, by omega, m - 1, by omega, 3, rfl, by omega, X1.trans X21, fun _ => hr, fun _ => hq, fun _ => hz⟩⟩
  · obtain rfl : t = 3 := by omega
    refine ⟨?_, X1⟩
    unfold checkC; rw [if_neg (not_not_intro (c0 (by decide))), if_neg (not_not_intro (c1 (by decide))), c2 (by decide)]
end
end Go.Proofs.Ytnppbflccbpoeaa

/- Chain: what turns a log; what it tells (the program's). -/
set_option linter.unusedVariables false
set_option linter.unusedSimpArgs false
set_option maxRecDepth 20000
set_option maxHeartbeats 2000000
namespace Go.Proofs.Ytnppbflccbpoeaa
open Go Go.Mx Go.Proofs
open W (OwnB GivesW numR countR doneR zig unzig intR)
section
variable {w w' w1 : World} {o o' o1 : Own} {q k n : Nat} {K : Nat → Prop} {S : OS} {L : CL} {e : Ent} {a : Option Addr} {c : Nat}
theorem PLog.cell {la : Option Addr} {n lc : Nat} {x0 x1 x2 x3 x4 : Value} (hb : Blk w q 90 [x0, x1, x2, x3, x4]) : w.cell? ((blk q).add 0) = some x0 ∧ w.cell? ((blk q).add 1) = some x1 ∧ w.cell? ((blk q).add 3) = some x3 ∧ w.cell? ((blk q).add 4) = some x4 :=
  ⟨hb.cella (i := 0) rfl, hb.cella (i := 1) rfl, hb.cella (i := 3) rfl, hb.cella (i := 4) rfl⟩
theorem cput_spec (P : PLog w o q k L) (h : POrc w o k S) (ok : Tags w o) (hqk : q ≠ k) (hok : S.ok) (hlen : S.used.length < 1000000) (hf : e.fit) (hb : Row w o a (bytesV e.body)) (hbl : e.body.length ≤ 1000000) (hes : L.es.length < 200) :
    Calls Try.prog 41 #[.pointer (some (blk q)), entV e a c] w (Gs (fun i => i = q ∨ i = k) w o (.tuple #[]) fun w' o' => PLog w' o' q k (putC S L e).1 ∧ POrc w' o' k (putC S L e).2) := by
  refine (chain_Log_put.go (some (blk q)) e.w e.i e.pv e.t e.tw e.ep a e.body.length c e.sg (R := fun v w' => ∃ o', v = .tuple #[] ∧ Step (fun i => i = q ∨ i = k) w o w' o' ∧ PLog w' o' q k (putC S L e).1 ∧ POrc w' o' k (putC S L e).2) ?_).mono fun x w' ⟨v, he, o', hv, hw⟩ => ⟨o', by rw [he, hv], hw⟩
  unfold chain_Log_put.N
  obtain ⟨la, lc, l, g0, b1, b2, b3, b4⟩ := P.st
  have hl := len_map_e g0
  have hlt := P.lt
  refine ⟨_, rfl, la, l.length, lc, b1.cella (i := 3) rfl, fun w11 p15 X11 hp => ?_⟩
  obtain ⟨s11, M11⟩ := Step.priv X11 hp ok
  have g15 := hp p15 (by simp)
  refine (cOwn_spec s11.ok (hb.step s11) hbl).mono fun x w25 ⟨o25, ba, bc, he, s25', rb, lb⟩ => ⟨e.w, e.i, e.pv, e.t, e.tw, e.ep, ba, e.body.length, bc, e.sg, he, M11.keep s25' (fun _ _ => id), ?_⟩
  have s25 := s11.trans s25'
  have P25 := P.step s25 id
  refine ⟨(s25.blk b1 P.own id).cella (i := 3) rfl, fun w27 q28 X27 hb28 hq28 hq28' => ?_⟩
  have s27' := Step.of_no X27 s25.ok
  have s27 := s25.trans s27'
  have b27 := s27.blk b1 P.own id
  have M27 := (M11.step s25').step s27'
  obtain ⟨i, hi, hz, hsz, hby⟩ := info_of inf39
  have hnews : RowAt w27 (some (blk q28)) (PE.C ⟨e, ba, bc⟩) := RowAt.of_blk hb28
  have l27 := s27.size
  obtain ⟨a', c', w31, o31, hr, s31', g31, hkeep, hblk⟩ := (b2.step s27 id).push (ty := 49) Try.underlying49 hi hz hsz hby rfl (by decide) s27.ok (Nat.lt_of_lt_of_le hlt l27) (xa := some (blk q28)) (m := 1) (xc := 1) (news := PE.C ⟨e, ba, bc⟩) rfl hnews (PE.one _) (by decide) (by omega) (by omega)
  have oq27 : grow w25 o25 q = some q := (s27.own hlt).trans P.own
  have b31 : Blk w31 q 90 [.pointer (some (blk k)), .int .i64 L.wr, .int .u64 L.pb, .slice la l.length lc, .int .u64 L.sum] := by
    unfold Blk at b27 ⊢
    rw [hkeep q (Nat.lt_of_lt_of_le hlt l27) fun ad hd e => b3 ad hd e.symm]; exact b27
  refine ⟨b27.cella (i := 3) rfl, a', _, c', w31, hr, M27.keep s31' (fun p hp e => by simp at hp; omega), b31.cana (i := 3) rfl, fun p hp => ?_, thenW_in fun w32 e32 => ?_⟩
  · simp at hp; subst hp; have : Addr.block ((blk q).add 3) = q := rfl; omega
  have hq31 : q < w31.heap.size := Nat.lt_of_lt_of_le hlt (Nat.le_trans l27 s31'.size)
  have tq31 : o31 q = some q := (s31'.own (Nat.lt_of_lt_of_le hlt l27)).trans oq27
  have hne : ∀ ad, a' = some ad → ad.block ≠ q := fun ad hd e => by
    rcases hblk ad hd with ⟨b, hb1, hb2⟩ | hq
    · exact b3 b hb1 (by omega)
    · omega
  have X32 : Ext (fun b => b = q) w31 w32 := (Ext.refl (fun b => b = q) w31).x_set (q := q) (i := 3) rfl (.inl rfl) e32
  obtain ⟨o32, s32'⟩ := Step.store1 X32 s31'.ok tq31
  have b32 := b31.seti 3 rfl e32
  have s2732 := s31'.trans s32'
  have h32 := (h.step s27 id).step s2732 (fun e => hqk e.symm)
  refine ⟨_, b32.cella (i := 0) rfl, fun w33 X33 => ?_⟩
  have s33' := Step.of_no X33 s32'.ok
  refine (SumO (h32.step s33' id) s33'.ok hok hlen (e := e) (fun _ => hf) ((((hb.step s27).step s2732).step s33').1)).mono fun x w39 ⟨o39, he, s39', p39⟩ => ⟨_, _, he, ?_⟩
  have b39 := s39'.blk (s33'.blk b32 ((s32'.own hq31).trans tq31) id) (((s33'.own (Nat.lt_of_lt_of_le hq31 s32'.size)).trans ((s32'.own hq31).trans tq31))) hqk
  refine ⟨b39.cana (i := 4) rfl, thenW_in fun w40 e40 => ?_⟩
  have X40 : Ext (fun b => b = q) w39 w40 := (Ext.refl (fun b => b = q) w39).x_set (q := q) (i := 4) rfl (.inl rfl) e40
  have l33 := s33'.size
  have l32 := s32'.size
  have tq39 : o39 q = some q := (s39'.own (by omega)).trans ((s33'.own (by omega)).trans ((s32'.own hq31).trans tq31))
  have hq39 : q < w39.heap.size := b39.lt
  obtain ⟨o40, s40'⟩ := Step.store1 X40 s39'.ok tq39
  have b40 := b39.seti 4 rfl e40
  have s2740 : Step (fun i => i = q ∨ i = k) w27 _ w40 o40 := (((s2732.mono fun _ h _ => .inl h).trans (s33'.none.trans (s39'.mono fun _ h _ => .inr h)))).trans (s40'.mono fun _ h _ => .inl h)
  refine ⟨o40, rfl, s27.none.trans s2740, ⟨(s40'.own hq39).trans tq39, ?_, a', c', l ++ [⟨e, ba, bc⟩], ?_, ?_, ?_, hne, fun x hx => ?_⟩, p39.step s40' (fun e => hqk e.symm)⟩
  · show (L.es ++ [e]).length ≤ 200; simp; omega
  · rw [List.map_append, g0]; rfl
  · rw [List.length_append]; exact b40
  · rw [List.length_append]
    have : PE.Cs (l ++ [⟨e, ba, bc⟩]) = PE.Cs l ++ PE.C ⟨e, ba, bc⟩ := by simp [PE.Cs]
    rw [this]
    exact (((g31.keep X32 (fun ad hd => hne ad hd) fun b hb => s32'.own hb).step s33' id).step s39' hqk).keep X40 (fun ad hd => hne ad hd) fun b hb => s40'.own hb
  · rcases List.mem_append.1 hx with hx | hx
    · exact ((b4 x hx).step s27).step s2740
    · simp at hx; subst hx
      exact ⟨((rb.step s27').step s2740), lb, hf⟩
theorem accept_out (hes : L.es.length ≤ 200) (h : checkC S L e = 0) : L.es.length < 200 ∧ entRight e = true ∧ e.w = L.wr ∧ holdsE S L.pb e = true ∧ e.i = L.es.length ∧ e.pv = L.sum := by
  unfold checkC at h
  by_cases h1 : rightC S L e = 0
  · rw [if_neg (not_not_intro h1)] at h
    by_cases h2 : placeC L e = 0
    · rw [if_neg (not_not_intro h2)] at h
      have hr := rightC_right h1
      have hi := ((entRight_iff _).1 hr).2.2.2.1
      have e1 : e.w = L.wr ∧ holdsE S L.pb e = true := by
        unfold rightC at h1
        rw [if_pos hr] at h1
        by_cases hw : e.w = L.wr
        · rw [if_pos hw] at h1
          by_cases hh : holdsE S L.pb e = true
          · exact ⟨hw, hh⟩
          · rw [if_neg hh] at h1; cases h1
        · rw [if_neg hw] at h1; cases h1
      have e2 : e.i = L.es.length := by
        unfold placeC at h2
        by_cases hg : e.i > L.es.length
        · rw [if_pos hg] at h2; cases h2
        · rw [if_neg hg] at h2
          by_cases he : e.i = L.es.length
          · exact he
          · rw [if_neg he] at h2; split at h2 <;> cases h2
      have e3 : e.pv = L.sum := by
        unfold behindC at h
        by_cases hp : e.pv = L.sum
        · exact hp
        · rw [if_neg hp] at h; cases h
      exact ⟨by omega, hr, e1.1, e1.2, e2, e3⟩
    · rw [if_pos h2] at h; exact absurd h h2
  · rw [if_pos h1] at h; exact absurd h h1
theorem cAccept_spec (P : PLog w o q k L) (h : POrc w o k S) (ok : Tags w o) (hqk : q ≠ k) (hok : S.ok) (hlen : S.used.length < 1000000) (hf : entRight e = true → e.fit) (hb : Row w o a (bytesV e.body)) :
    Calls Try.prog 15 #[.pointer (some (blk q)), entV e a c] w (Gs (fun i => i = q ∨ i = k) w o (.int .i64 (acceptC S L e).1) fun w' o' => PLog w' o' q k (acceptC S L e).2.1 ∧ POrc w' o' k (acceptC S L e).2.2) := by
  refine (chain_Log_Accept.go (some (blk q)) e.w e.i e.pv e.t e.tw e.ep a e.body.length c e.sg (R := fun v w' => ∃ o', v = .int .i64 (acceptC S L e).1 ∧ Step (fun i => i = q ∨ i = k) w o w' o' ∧ PLog w' o' q k (acceptC S L e).2.1 ∧ POrc w' o' k (acceptC S L e).2.2) ?_).mono fun x w' ⟨v, he, o', hv, hw⟩ => ⟨o', by rw [he, hv], hw⟩
  unfold chain_Log_Accept.N
  intro w10 p11 X10 hp
  have s10 := Step.of_no X10 ok
  refine (cCheck_spec (P.step s10 id) (h.step s10 id) s10.ok hf (hb.step s10).1).mono fun x w14 ⟨he, X14⟩ => ⟨_, he, X14.kept, fun h0 => ?_, fun h0 => ?_⟩
  · have s14 := s10.trans (Step.of_no X14 s10.ok)
    obtain ⟨q1, q2, _⟩ := accept_out P.few h0
    have hbl := ((entRight_iff _).1 q2).2.2.2.2.2.2.2.2.2.1
    refine (cput_spec (P.step s14 id) (h.step s14 id) s14.ok hqk hok hlen (hf q2) (hb.step s14) (by omega) q1).mono fun x w17 ⟨o17, he, s17, p17, h17⟩ => ⟨he, o17, ?_, s14.none.trans s17, ?_, ?_⟩
    · rw [h0]; unfold acceptC; rw [if_pos h0]
    · unfold acceptC; rw [if_pos h0]; exact p17
    · unfold acceptC; rw [if_pos h0]; exact h17
  · have s14 := s10.trans (Step.of_no X14 s10.ok)
    unfold acceptC
    rw [if_neg h0]
    exact ⟨_, rfl, s14.none, P.step s14 id, h.step s14 id⟩
theorem signE_body {s : Int} (h : entRight e = true) : (signE S s e).1.1.body.length ≤ 1100 := by
  unfold signE
  rw [if_pos h]
  split
  · exact ((entRight_iff _).1 h).2.2.2.2.2.2.2.2.2.1
  · exact Nat.zero_le _
theorem signE_e {s : Int} (h : (signE S s e).1.2 = 0) : entRight e = true ∧ (signE S s e).1.1 = { e with sg := (signOf S s (textL e)).1.1 } ∧ (signE S s e).2 = (signOf S s (textL e)).2 ∧ (signOf S s (textL e)).1.2 = true := by
  unfold signE at h ⊢
  by_cases hr : entRight e = true
  · rw [if_pos hr] at h ⊢
    by_cases hs : (signOf S s (textL e)).1.2 = true
    · rw [if_pos hs]; exact ⟨hr, rfl, rfl, hs⟩
    · rw [if_neg hs] at h; cases h
  · rw [if_neg hr] at h; cases h
theorem cIssue_spec (P : PLog w o q k L) (h : POrc w o k S) (ok : Tags w o) (hqk : q ≠ k) (hok : S.ok) (hlen : S.used.length + 1 < 1000000) (hsum : 0 ≤ L.sum ∧ L.sum < 18446744073709551616) (sec t tw ep : Int) {body : List UInt8} (hsg : 0 ≤ (signOf S sec (textL (nextE L t tw ep body))).1.1 ∧ (signOf S sec (textL (nextE L t tw ep body))).1.1 < 18446744073709551616) (hb : Row w o a (bytesV body)) :
    Calls Try.prog 14 #[.pointer (some (blk q)), .int .u64 sec, .agg #[.int .i64 t, .int .i64 tw], .int .i64 ep, .slice a body.length c] w (fun x w' => ∃ o' a' c', x = .returned (.tuple #[entV (issueC S L sec t tw ep body).1.1 a' c', .int .i64 (issueC S L sec t tw ep body).1.2]) ∧ Step (fun i => i = q ∨ i = k) w o w' o' ∧
      PLog w' o' q k (issueC S L sec t tw ep body).2.1 ∧ POrc w' o' k (issueC S L sec t tw ep body).2.2 ∧ Row w' o' a' (bytesV (issueC S L sec t tw ep body).1.1.body) ∧ (issueC S L sec t tw ep body).1.1.body.length ≤ c') := by
  refine (chain_Log_Issue.go (some (blk q)) sec t tw ep a body.length c (R := fun v w' => ∃ o' a' c', v = (.tuple #[entV (issueC S L sec t tw ep body).1.1 a' c', .int .i64 (issueC S L sec t tw ep body).1.2]) ∧ Step (fun i => i = q ∨ i = k) w o w' o' ∧
      PLog w' o' q k (issueC S L sec t tw ep body).2.1 ∧ POrc w' o' k (issueC S L sec t tw ep body).2.2 ∧ Row w' o' a' (bytesV (issueC S L sec t tw ep body).1.1.body) ∧ (issueC S L sec t tw ep body).1.1.body.length ≤ c') ?_).mono fun x w' ⟨v, he, o', a', c', hv, hw⟩ => ⟨o', a', c', by rw [he, hv], hw⟩
  unfold chain_Log_Issue.N
  obtain ⟨la, lc, l, g0, b1, b2, b3, b4⟩ := P.st
  have hl := len_map_e g0
  have hlt := P.lt
  have hF : entry_Right.F L.wr (l.length : Int) L.sum t tw ep a body.length c 0 = entRight (nextE L t tw ep body) := by
    rw [hl]; exact entRight_F (nextE L t tw ep body) a c
  refine ⟨fun h => (by cases h), fun _ => ⟨_, rfl, la, l.length, lc, b1.cella (i := 3) rfl, fun hge w31 X31 => ?_, fun hlt2 => ⟨_, b1.cella (i := 1) rfl, la, l.length, lc, b1.cella (i := 3) rfl, _, b1.cella (i := 4) rfl, ?_⟩⟩⟩
  · have s := Step.of_no X31 ok
    unfold issueC; rw [if_pos (show L.es.length ≥ 200 by omega)]
    exact ⟨_, none, 0, rfl, s.none, P.step s id, h.step s id, Row.nil _ _ _, Nat.le_refl _⟩
  rw [hF]
  have hn : ¬ (L.es.length ≥ 200) := by omega
  refine ⟨fun hr w59 X59 => ?_, fun hr w50 p64 p65 X50 hp => ?_⟩
  · have s := Step.of_no X59 ok
    unfold issueC; rw [if_neg hn, if_neg (by rw [hr]; decide)]
    exact ⟨_, none, 0, rfl, s.none, P.step s id, h.step s id, Row.nil _ _ _, Nat.le_refl _⟩
  obtain ⟨s50, M50⟩ := Step.priv X50 hp ok
  have g64 := hp p64 (by simp)
  have g65 := hp p65 (by simp)
  have hkl := h.lt
  have hE : ∀ (v : Value), v = entV (nextE L t tw ep body) a c → v = .agg #[.int .i64 L.wr, .int .i64 (l.length : Int), .int .u64 L.sum, .int .i64 t, .int .i64 tw, .int .i64 ep, .slice a body.length c, .int .u64 0] := fun v hv => by rw [hv, hl]; rfl
  have hf : (nextE L t tw ep body).fit := ⟨hsum.1, hsum.2, by show (0 : Int) ≤ 0; decide, by show (0 : Int) < _; decide⟩
  rw [← hE _ rfl]
  refine (cbehind_spec (P.step s50 id)).mono fun x w68 ⟨he, X68⟩ => ⟨_, he, X68.kept, fun hbe w77 X77 => ?_, fun hbe => ?_⟩
  · have s68' := Step.of_no X68 s50.ok
    have s77' := Step.stores X77 s68'.ok (M50.step s68') (by simp [or_comm])
    have s77 := (s50.trans s68').trans' s77' fun i hi => .inr (by simp at hi; omega)
    unfold issueC; rw [if_neg hn, if_pos hr, if_pos hbe]
    exact ⟨_, none, 0, rfl, s77.none, P.step s77 id, h.step s77 id, Row.nil _ _ _, Nat.le_refl _⟩
  have s68' := Step.of_no X68 s50.ok
  have s68 := s50.trans s68'
  have M68 := M50.step s68'
  refine ⟨_, (s68.blk b1 P.own id).cella (i := 0) rfl, fun w78 X78 => ?_⟩
  have s78' := Step.of_no X78 s68.ok
  have s78 := s68.trans s78'
  have M78 := M68.step s78'
  have l78 := s78.size
  refine (SignE (h.step s78 id) s78.ok hok (by omega) sec (e := nextE L t tw ep body) (fun _ => hf) (hb.step s78)).mono fun x w91 ⟨o91, sa, sc, he, s91', p91, rs, ls⟩ => ⟨_, _, _, _, _, _, _, _, _, _, _, he, M78.keep s91' (by simp; omega), ?_⟩
  have s91 : Step (fun i => i = q ∨ i = k) w o w91 o91 := s78.none.trans (s91'.mono fun i h _ => .inr h)
  have M91 := M78.step s91'
  have l91 := s91.size
  have P91 := (P.step s78 id).step s91' hqk
  refine ⟨fun hsi w108 X108 => ?_, fun hsi w99 X99 => ?_⟩
  · have s108' := Step.stores X108 s91.ok M91 (by simp [or_comm])
    have s108 := s91.trans' s108' fun i hi => .inr (by simp at hi; omega)
    unfold issueC; rw [if_neg hn, if_pos hr, if_neg (not_not_intro hbe), if_pos hsi]
    exact ⟨_, none, 0, rfl, s108, P91.step s108' (by simp; omega), p91.step s108' (by simp; omega), Row.nil _ _ _, Nat.le_refl _⟩
  · have s99' := Step.stores X99 s91.ok (M91.sub (M := [p65]) (by simp)) (by simp)
    have s99 := s91.trans' s99' fun i hi => .inr (by simp at hi; omega)
    have M99 := M91.step s99'
    obtain ⟨z1, z2, z3, z4⟩ := signE_e hsi
    have hfit : (signE S sec (nextE L t tw ep body)).1.1.fit := by rw [z2]; exact ⟨hf.1, hf.2, hsg.1, hsg.2⟩
    have hbl := signE_body (S := S) (s := sec) hr
    have hok9 : (signE S sec (nextE L t tw ep body)).2.ok ∧ (signE S sec (nextE L t tw ep body)).2.used.length ≤ S.used.length + 1 := by rw [z3]; exact signOf_ok hok sec _
    refine (cput_spec (P91.step s99' (by simp; omega)) (p91.step s99' (by simp; omega)) s99.ok hqk hok9.1 (by omega) hfit (rs.step s99') (by omega) (by omega)).mono fun x w110 ⟨o110, he, s110', p110, h110⟩ => ⟨he, (M99.sub (M := [p64, p65]) (by simp)).keep s110' (by simp; omega), fun w118 X118 => ?_⟩
    have s118' := Step.stores X118 s110'.ok ((M99.step s110').sub (M := [p64]) (by simp)) (by simp)
    have s118 : Step (fun i => i = q ∨ i = k) w o w118 _ := (s99.trans s110').trans' s118' fun i hi => .inr (by simp at hi; omega)
    unfold issueC; rw [if_neg hn, if_pos hr, if_neg (not_not_intro hbe), if_neg (not_not_intro hsi)]
    exact ⟨_, sa, sc, rfl, s118, p110.step s118' (by simp; omega), h110.step s118' (by simp; omega), ((rs.step s99').step s110').step s118', ls⟩
end
end Go.Proofs.Ytnppbflccbpoeaa

/- Chain: what a log tells (the program's). -/
set_option linter.unusedVariables false
set_option linter.unusedSimpArgs false
set_option maxRecDepth 20000
set_option maxHeartbeats 2000000
namespace Go.Proofs.Ytnppbflccbpoeaa
open Go Go.Mx Go.Proofs
open W (OwnB GivesW numR countR doneR zig unzig intR)
section
variable {w w' w1 : World} {o o' o1 : Own} {q k n : Nat} {K : Nat → Prop} {S : OS} {L : CL} {e : Ent} {a : Option Addr} {c : Nat}
theorem cLen_spec (P : PLog w o q k L) : Calls Try.prog 28 #[.pointer (some (blk q))] w (Ret (.int .i64 L.es.length) fun w' => w' = w) := by
  refine chain_Log_Len.run _ ?_
  unfold chain_Log_Len.N
  obtain ⟨la, lc, l, g0, b1, b2, b3, b4⟩ := P.st
  refine ⟨fun h => (by cases h), fun _ => ⟨_, rfl, la, l.length, lc, b1.cella (i := 3) rfl, by rw [len_map_e g0], rfl⟩⟩
theorem cHead_spec (P : PLog w o q k L) : Calls Try.prog 16 #[.pointer (some (blk q))] w (Ret (.agg #[.int .i64 L.wr, .int .i64 L.es.length, .int .u64 L.sum]) fun w' => Ext no w w') := by
  refine chain_Log_Head.run _ ?_
  unfold chain_Log_Head.N
  obtain ⟨la, lc, l, g0, b1, b2, b3, b4⟩ := P.st
  refine ⟨fun h => (by cases h), fun _ => ⟨_, rfl, _, b1.cella (i := 1) rfl, la, l.length, lc, b1.cella (i := 3) rfl, _, b1.cella (i := 4) rfl, fun w' X => ⟨by rw [len_map_e g0], X⟩⟩⟩
/-- what odds there are. -/
def oddsC (S : OS) (L : CL) (e : Ent) : Ent × Ent × Bool := if checkC S L e = 9 then ((L.es[e.i.toNat]?).getD Ent.zero, e, true) else (Ent.zero, Ent.zero, false)
theorem check_fork (h : checkC S L e = 9) : 0 ≤ e.i ∧ e.i < L.es.length := by
  unfold checkC at h
  by_cases h1 : rightC S L e = 0
  · rw [if_neg (not_not_intro h1)] at h
    have h0 := ((entRight_iff _).1 (rightC_right h1)).2.2.1
    refine ⟨h0, ?_⟩
    by_cases h2 : placeC L e = 0
    · rw [if_neg (not_not_intro h2)] at h
      unfold behindC at h
      split at h
      · split at h
        · cases h
        · split at h <;> cases h
      · cases h
    · rw [if_pos h2] at h
      unfold placeC at h
      split at h
      · cases h
      · split at h
        · cases h
        · omega
  · rw [if_pos h1] at h
    unfold rightC at h
    split at h
    · split at h
      · split at h <;> cases h
      · cases h
    · cases h
theorem cOdds_spec (P : PLog w o q k L) (h : POrc w o k S) (ok : Tags w o) (hf : entRight e = true → e.fit) (hb : Row w o a (bytesV e.body)) (hel : e.body.length ≤ 1000000) (hbl : ∀ e ∈ L.es, e.body.length ≤ 1000000) :
    Calls Try.prog 24 #[.pointer (some (blk q)), entV e a c] w (fun x w' => ∃ o' a1 c1 a2 c2, x = .returned (.tuple #[entV (oddsC S L e).1 a1 c1, entV (oddsC S L e).2.1 a2 c2, .bool (oddsC S L e).2.2]) ∧ Step no w o w' o' ∧ Row w' o' a1 (bytesV (oddsC S L e).1.body) ∧ Row w' o' a2 (bytesV (oddsC S L e).2.1.body)) := by
  refine (chain_Log_Odds.go (some (blk q)) e.w e.i e.pv e.t e.tw e.ep a e.body.length c e.sg (R := fun v w' => ∃ o' a1 c1 a2 c2, v = (.tuple #[entV (oddsC S L e).1 a1 c1, entV (oddsC S L e).2.1 a2 c2, .bool (oddsC S L e).2.2]) ∧ Step no w o w' o' ∧ Row w' o' a1 (bytesV (oddsC S L e).1.body) ∧ Row w' o' a2 (bytesV (oddsC S L e).2.1.body)) ?_).mono fun x w' ⟨v, he, o', a1, c1, a2, c2, hv, hw⟩ => ⟨o', a1, c1, a2, c2, by rw [he, hv], hw⟩
  unfold chain_Log_Odds.N
  intro w12 p13 p14 p15 X12 hp
  obtain ⟨s12, M12⟩ := Step.priv X12 hp ok
  have g13 := hp p13 (by simp)
  have g14 := hp p14 (by simp)
  have g15 := hp p15 (by simp)
  refine (cCheck_spec (P.step s12 id) (h.step s12 id) s12.ok hf (hb.step s12).1).mono fun x w18 ⟨he, X18⟩ => ⟨_, he, X18.kept, fun hne w36 X36 => ?_, fun h9 => ?_⟩
  · have s18' := Step.of_no X18 s12.ok
    have s36' := Step.stores X36 s18'.ok (M12.step s18') (by simp [or_comm])
    have s36 := (s12.trans s18').trans' s36' fun i hi => .inr (by simp at hi; omega)
    unfold oddsC; rw [if_neg hne]
    exact ⟨_, none, 0, none, 0, rfl, s36, Row.nil _ _ _, Row.nil _ _ _⟩
  · have s18' := Step.of_no X18 s12.ok
    have s18 := s12.trans s18'
    have M18 := M12.step s18'
    obtain ⟨i0, i1⟩ := check_fork h9
    obtain ⟨la, lc, l, g0, b1, b2, b3, b4⟩ := (P.step s18 id).st
    have hl := len_map_e g0
    have hi : e.i.toNat < l.length := by omega
    have hgx : l[e.i.toNat]? = some l[e.i.toNat] := List.getElem?_eq_getElem hi
    have hxm := List.getElem_mem hi
    generalize l[e.i.toNat] = x at *
    obtain ⟨ad, rfl⟩ := b2.row.faddr PE.len (by decide) hi
    have hO : oddsC S L e = (x.e, e, true) := by unfold oddsC; rw [if_pos h9, getElem_map_e g0, hgx]; rfl
    rw [hO]
    refine ⟨_, rfl, some ad, l.length, lc, b1.cella (i := 3) rfl, ad, rfl, i0, by omega, x.e.w, x.e.i, x.e.pv, x.e.t, x.e.tw, x.e.ep, x.a, x.e.body.length, x.c, x.e.sg, PE.loads b2.row rfl hgx, fun w37 X37 => ?_⟩
    have s37' := Step.of_no X37 s18.ok
    have s37 := s18.trans s37'
    have M37 := M18.step s37'
    refine (cOwn_spec s37.ok ((b4 x hxm).1.step s37') (hbl _ (by rw [← g0]; exact List.mem_map_of_mem hxm))).mono fun z w60 ⟨o60, ba, bc, he, s60', rb, lb⟩ => ⟨_, _, _, _, _, _, _, _, _, _, he, M37.keep s60' (fun _ _ => id), ?_⟩
    have s60 := s37.trans s60'
    have M60 := M37.step s60'
    refine (cOwn_spec s60.ok (hb.step s60) hel).mono fun z w70 ⟨o70, da, dc, he, s70', rd, ld⟩ => ⟨_, _, _, _, _, _, _, _, _, _, he, (M60.sub (M := [p14, p15]) (by simp)).keep s70' (fun _ _ => id), fun w86 X86 => ?_⟩
    have s86' := Step.stores X86 s70'.ok ((M60.step s70').sub (M := [p14, p15]) (by simp)) (by simp [or_comm])
    have s86 := (s60.trans s70').trans' s86' fun i hi => .inr (by simp at hi; omega)
    exact ⟨_, ba, bc, da, dc, rfl, s86, (rb.step s70').step s86', rd.step s86'⟩
end
end Go.Proofs.Ytnppbflccbpoeaa

/- The oracle's tables, plainly: what stays true through all calls. -/
set_option linter.unusedVariables false
set_option linter.unusedSimpArgs false
namespace Go.Proofs.Ytnppbflccbpoeaa
open Go Go.Mx Go.Proofs
structure OInv (S : OS) : Prop where
  ok : S.ok
  rng : ∀ x ∈ S.used, 0 < x ∧ (x < 18446744073709551616 ∨ x ≤ 2 * S.used.length)
  hu : ∀ b h, alook S.hashes b = some h → h ∈ S.used
  hi : ∀ b c h, alook S.hashes b = some h → alook S.hashes c = some h → b = c
  sg : ∀ q x, alook S.signs q = some x → alook S.signed x = some q
  gs : ∀ x q, alook S.signed x = some q → alook S.signs q = some x
  su : ∀ x q, alook S.signed x = some q → x ∈ S.used
  pu : ∀ p s, alook S.publics p = some s → p ∈ S.used
  ps : ∀ p s, alook S.publics p = some s → s ∈ S.secrets
  eu : ∀ s ∈ S.secrets, s ∈ S.used
theorem OInv.nz {S : OS} (h : OInv S) : ∀ x ∈ S.used, x ≠ 0 := fun x hx => by have := (h.rng x hx).1; omega
theorem OInv.fit {S : OS} (h : OInv S) (hl : S.used.length < 1000000000) {x : Int} (hx : x ∈ S.used) : 0 ≤ x ∧ x < 18446744073709551616 := by
  have := h.rng x hx
  omega
theorem fresh_rng {S : OS} (h : S.ok) : 0 < (freshOf S).1 ∧ ((freshOf S).1 < 18446744073709551616 ∨ (freshOf S).1 ≤ 2 * ((S.used.length : Int) + 1)) := by
  obtain ⟨h1, h2, h3, h4⟩ := h
  unfold freshOf
  cases hp : pickD S.draws S.used with
  | some q =>
    obtain ⟨x, r⟩ := q
    obtain ⟨a, b, c⟩ := pickD_spec hp
    have := h4 x c
    exact ⟨by show 0 < x; omega, .inl this.2⟩
  | none =>
    obtain ⟨a, b, c, d, e⟩ := pickN_spec S.used (S.used.length + 1) S.next h1 (gap S.used _ _ (by omega))
    exact ⟨by show 0 < pickN _ _ _; omega, .inr (by show pickN _ _ _ ≤ _; omega)⟩
/-- nothing is lost. -/
structure OS.le (S S' : OS) : Prop where
  hashes : ∀ b h, alook S.hashes b = some h → alook S'.hashes b = some h
  signs : ∀ q x, alook S.signs q = some x → alook S'.signs q = some x
  signed : ∀ x q, alook S.signed x = some q → alook S'.signed x = some q
  publics : ∀ p s, alook S.publics p = some s → alook S'.publics p = some s
  secrets : ∀ s ∈ S.secrets, s ∈ S'.secrets
  used : ∀ x ∈ S.used, x ∈ S'.used
theorem OS.le.refl (S : OS) : OS.le S S := ⟨fun _ _ h => h, fun _ _ h => h, fun _ _ h => h, fun _ _ h => h, fun _ h => h, fun _ h => h⟩
theorem OS.le.trans {S T U : OS} (a : OS.le S T) (b : OS.le T U) : OS.le S U :=
  ⟨fun x y h => b.hashes x y (a.hashes x y h), fun x y h => b.signs x y (a.signs x y h), fun x y h => b.signed x y (a.signed x y h), fun x y h => b.publics x y (a.publics x y h), fun x h => b.secrets x (a.secrets x h), fun x h => b.used x (a.used x h)⟩
theorem OInv.init {l : List Int} (hl : ∀ d ∈ l, 0 ≤ d ∧ d < 18446744073709551616) : OInv (OS.init l) :=
  ⟨OS.init_ok l hl, fun x h => by simp [OS.init] at h, fun b h e => by simp [OS.init, alook] at e, fun b c h e => by simp [OS.init, alook] at e, fun q x e => by simp [OS.init, alook] at e, fun x q e => by simp [OS.init, alook] at e,
    fun x q e => by simp [OS.init, alook] at e, fun p s e => by simp [OS.init, alook] at e, fun p s e => by simp [OS.init, alook] at e, fun s h => by simp [OS.init] at h⟩
/-- after a fresh handle, the tables as they were. -/
theorem fresh_inv {S : OS} (h : OInv S) : OInv (freshOf S).2 ∧ OS.le S (freshOf S).2 ∧ (freshOf S).1 ∉ S.used ∧ (freshOf S).1 ∈ (freshOf S).2.used ∧ (freshOf S).1 ≠ 0 := by
  obtain ⟨a1, a2, a3, a4⟩ := freshOf_spec h.ok
  obtain ⟨c1, c2, c3, c4, c5, c6, c7, c8⟩ := freshOf_frame S
  have hsub : ∀ x ∈ S.used, x ∈ (freshOf S).2.used := fun x hx => by rw [a3]; simp [hx]
  refine ⟨⟨a4, fun x hx => ?_, fun b k e => hsub _ (h.hu b k (by rw [← c1]; exact e)), fun b c k e1 e2 => h.hi b c k (by rw [← c1]; exact e1) (by rw [← c1]; exact e2), fun q x e => ?_, fun x q e => ?_, fun x q e => ?_, fun p s e => ?_, fun p s e => ?_, fun s hs => ?_⟩,
    ⟨fun b k e => by rw [c1]; exact e, fun q x e => by rw [c5]; exact e, fun x q e => by rw [c6]; exact e, fun p s e => by rw [c4]; exact e, fun s hs => by rw [c3]; exact hs, hsub⟩, a2, by rw [a3]; simp, a1⟩
  · have hl : (freshOf S).2.used.length = S.used.length + 1 := by rw [a3]; simp
    rw [hl]
    rw [a3] at hx
    rcases List.mem_append.1 hx with hx | hx
    · have := h.rng x hx; omega
    · simp at hx; rw [hx]; have := fresh_rng h.ok; omega
  · rw [c5] at e; rw [c6]; exact h.sg q x e
  · rw [c6] at e; rw [c5]; exact h.gs x q e
  · rw [c6] at e; exact hsub _ (h.su x q e)
  · rw [c4] at e; exact hsub _ (h.pu p s e)
  · rw [c4] at e; rw [c3]; exact h.ps p s e
  · rw [c3] at hs; exact hsub _ (h.eu s hs)
theorem hash_inv {S : OS} (h : OInv S) (b : List UInt8) : OInv (hashOf S b).2 ∧ OS.le S (hashOf S b).2 ∧ alook (hashOf S b).2.hashes b = some (hashOf S b).1 ∧ (hashOf S b).1 ≠ 0 ∧
    (hashOf S b).2.signs = S.signs ∧ (hashOf S b).2.signed = S.signed ∧ (hashOf S b).2.publics = S.publics ∧ (hashOf S b).2.secrets = S.secrets := by
  obtain ⟨c1, c2, c3, c4, c5, c6, c7, c8⟩ := freshOf_frame S
  obtain ⟨f1, f2, f3, f4, f5⟩ := fresh_inv h
  unfold hashOf
  cases hk : alook S.hashes b with
  | some x => exact ⟨h, OS.le.refl _, hk, h.nz _ (h.hu b x hk), rfl, rfl, rfl, rfl⟩
  | none =>
    have hl : ∀ c k, alook (aput S.hashes b (freshOf S).1) c = some k → (b = c ∧ k = (freshOf S).1) ∨ alook S.hashes c = some k := fun c k e => by
      rw [alook_put] at e
      split at e
      · rename_i hbc; cases e; exact .inl ⟨hbc, rfl⟩
      · exact .inr e
    refine ⟨⟨f1.ok, f1.rng, fun c k e => ?_, fun c d k e1 e2 => ?_, f1.sg, f1.gs, f1.su, f1.pu, f1.ps, f1.eu⟩, ⟨fun c k e => ?_, f2.signs, f2.signed, f2.publics, f2.secrets, f2.used⟩, ?_, f5, c5, c6, c4, c3⟩
    · rcases hl c k e with ⟨_, rfl⟩ | e
      · exact f4
      · exact f2.used _ (h.hu c k e)
    · rcases hl c k e1 with ⟨rfl, rfl⟩ | e1 <;> rcases hl d _ e2 with ⟨rfl, _⟩ | e2
      · rfl
      · exact absurd (h.hu d _ e2) f3
      · rename_i hk2; subst hk2; exact absurd (h.hu c _ e1) f3
      · exact h.hi c d k e1 e2
    · show alook (aput S.hashes b (freshOf S).1) c = some k
      rw [alook_put, if_neg (fun e' => by subst e'; rw [hk] at e; cases e)]; exact e
    · show alook (aput S.hashes b (freshOf S).1) b = _
      rw [alook_put, if_pos rfl]
theorem hash_eq {S : OS} {b : List UInt8} {x : Int} (h : alook S.hashes b = some x) : hashOf S b = (x, S) := by unfold hashOf; rw [h]
theorem badd_mem {l : List Int} {x y : Int} : y ∈ badd l x ↔ y ∈ l ∨ y = x := by
  unfold badd
  split
  · constructor
    · exact .inl
    · rintro (h | rfl)
      · exact h
      · assumption
  · simp
theorem pair_inv {S : OS} (h : OInv S) : OInv (pairOf S).2 ∧ OS.le S (pairOf S).2 ∧ alook (pairOf S).2.publics (pairOf S).1.2 = some (pairOf S).1.1 ∧ (pairOf S).1.1 ∈ (pairOf S).2.secrets ∧ (pairOf S).1.2 ∉ (pairOf S).2.secrets ∧ (pairOf S).1.1 ∉ S.secrets ∧
    (pairOf S).2.hashes = S.hashes ∧ (pairOf S).2.signs = S.signs ∧ (pairOf S).2.signed = S.signed := by
  obtain ⟨a1, a2, a3, a4, a5, a6, a7, a8, a9, a10, a11, a12, a13, a14⟩ := pairOf_spec h.ok
  obtain ⟨k1, _⟩ := pairOf_ok h.ok
  have hsub : ∀ x ∈ S.used, x ∈ (pairOf S).2.used := fun x hx => by rw [a6]; simp [hx]
  have hl : ∀ c k, alook (pairOf S).2.publics c = some k → ((pairOf S).1.2 = c ∧ k = (pairOf S).1.1) ∨ alook S.publics c = some k := fun c k e => by
    rw [a8, alook_put] at e
    split at e
    · rename_i hbc; cases e; exact .inl ⟨hbc, rfl⟩
    · exact .inr e
  have hall : ∀ x ∈ (pairOf S).2.used, 0 < x ∧ (x < 18446744073709551616 ∨ x ≤ 2 * ((pairOf S).2.used.length : Int)) := fun x hx => by
    have h5 : OS.ok { (freshOf S).2 with secrets := badd S.secrets (freshOf S).1 } := (freshOf_spec h.ok).2.2.2
    have r1 := fresh_rng h.ok
    have r2 : 0 < (pairOf S).1.2 ∧ ((pairOf S).1.2 < 18446744073709551616 ∨ (pairOf S).1.2 ≤ 2 * (((freshOf S).2.used.length : Int) + 1)) := fresh_rng h5
    have r3 : (freshOf S).2.used.length = S.used.length + 1 := by rw [(freshOf_spec h.ok).2.2.1]; simp
    have r4 : (pairOf S).2.used.length = S.used.length + 2 := by rw [a6]; simp
    rw [r4]
    rw [a6] at hx
    rcases List.mem_append.1 hx with hx | hx
    · rcases List.mem_append.1 hx with hx | hx
      · have := h.rng x hx; omega
      · simp at hx; rw [hx]; show 0 < (freshOf S).1 ∧ ((freshOf S).1 < _ ∨ (freshOf S).1 ≤ _); omega
    · simp at hx; rw [hx]; omega
  refine ⟨⟨k1, hall, fun b k e => hsub _ (h.hu b k (by rw [← a9]; exact e)), fun b c k e1 e2 => h.hi b c k (by rw [← a9]; exact e1) (by rw [← a9]; exact e2), fun q x e => by rw [a11] at e; rw [a12]; exact h.sg q x e, fun x q e => by rw [a12] at e; rw [a11]; exact h.gs x q e,
    fun x q e => by rw [a12] at e; exact hsub _ (h.su x q e), fun p s e => ?_, fun p s e => ?_, fun s hs => ?_⟩, ⟨fun b k e => by rw [a9]; exact e, fun q x e => by rw [a11]; exact e, fun x q e => by rw [a12]; exact e, fun p s e => ?_, fun s hs => by rw [a7, badd_mem]; exact .inl hs, hsub⟩, ?_, by rw [a7, badd_mem]; exact .inr rfl, fun hs => ?_, fun hs => a3 (h.eu _ hs), a9, a11, a12⟩
  · rcases hl p s e with ⟨rfl, _⟩ | e
    · rw [a6]; simp
    · exact hsub _ (h.pu p s e)
  · rw [a7, badd_mem]
    rcases hl p s e with ⟨_, rfl⟩ | e
    · exact .inr rfl
    · exact .inl (h.ps p s e)
  · rw [a7, badd_mem] at hs
    rcases hs with hs | rfl
    · exact hsub _ (h.eu s hs)
    · rw [a6]; simp
  · rw [a8, alook_put, if_neg (fun e' => a4 (by rw [e']; exact h.pu p s e))]; exact e
  · rw [a8, alook_put, if_pos rfl]
  · rw [a7, badd_mem] at hs
    rcases hs with hs | hs
    · exact a4 (h.eu _ hs)
    · exact a5 hs.symm
theorem sign_inv {S : OS} (h : OInv S) {k : Int} (hk : k ∈ S.secrets) (b : List UInt8) : OInv (signOf S k b).2 ∧ OS.le S (signOf S k b).2 ∧ (signOf S k b).1.2 = true ∧ alook (signOf S k b).2.signed (signOf S k b).1.1 = some (k, b) ∧ alook (signOf S k b).2.signs (k, b) = some (signOf S k b).1.1 ∧
    (signOf S k b).2.hashes = S.hashes ∧ (signOf S k b).2.publics = S.publics ∧ (signOf S k b).2.secrets = S.secrets := by
  obtain ⟨c1, c2, c3, c4, c5, c6, c7, c8⟩ := freshOf_frame S
  obtain ⟨f1, f2, f3, f4, f5⟩ := fresh_inv h
  unfold signOf
  rw [if_pos hk]
  cases hs : alook S.signs (k, b) with
  | some x => exact ⟨h, OS.le.refl _, rfl, h.sg _ _ hs, hs, rfl, rfl, rfl⟩
  | none =>
    have hl : ∀ c z, alook (aput S.signs (k, b) (freshOf S).1) c = some z → ((k, b) = c ∧ z = (freshOf S).1) ∨ alook S.signs c = some z := fun c z e => by
      rw [alook_put] at e
      split at e
      · rename_i hbc; cases e; exact .inl ⟨hbc, rfl⟩
      · exact .inr e
    have hg : ∀ c z, alook (aput S.signed (freshOf S).1 (k, b)) c = some z → ((freshOf S).1 = c ∧ z = (k, b)) ∨ alook S.signed c = some z := fun c z e => by
      rw [alook_put] at e
      split at e
      · rename_i hbc; cases e; exact .inl ⟨hbc, rfl⟩
      · exact .inr e
    have hn : ∀ x q, alook S.signed x = some q → (freshOf S).1 ≠ x := fun x q e e' => f3 (by rw [e']; exact h.su x q e)
    refine ⟨⟨f1.ok, f1.rng, f1.hu, f1.hi, fun q x e => ?_, fun x q e => ?_, fun x q e => ?_, f1.pu, f1.ps, f1.eu⟩, ⟨f2.hashes, fun q x e => ?_, fun x q e => ?_, f2.publics, f2.secrets, f2.used⟩, rfl, ?_, ?_, c1, c4, c3⟩
    · show alook (aput S.signed (freshOf S).1 (k, b)) x = some q
      rcases hl q x e with ⟨rfl, rfl⟩ | e
      · rw [alook_put, if_pos rfl]
      · rw [alook_put, if_neg (hn x q (h.sg q x e))]; exact h.sg q x e
    · show alook (aput S.signs (k, b) (freshOf S).1) q = some x
      rcases hg x q e with ⟨rfl, rfl⟩ | e
      · rw [alook_put, if_pos rfl]
      · rw [alook_put, if_neg (fun e' => by subst e'; have := h.gs x _ e; rw [hs] at this; cases this)]; exact h.gs x q e
    · rcases hg x q e with ⟨rfl, rfl⟩ | e
      · exact f4
      · exact f2.used _ (h.su x q e)
    · show alook (aput S.signs (k, b) (freshOf S).1) q = some x
      rw [alook_put, if_neg (fun e' => by subst e'; rw [hs] at e; cases e)]; exact e
    · show alook (aput S.signed (freshOf S).1 (k, b)) x = some q
      rw [alook_put, if_neg (hn x q e)]; exact e
    · show alook (aput S.signed (freshOf S).1 (k, b)) (freshOf S).1 = _
      rw [alook_put, if_pos rfl]
    · show alook (aput S.signs (k, b) (freshOf S).1) (k, b) = _
      rw [alook_put, if_pos rfl]
theorem sign_eq {S : OS} {k : Int} {b : List UInt8} {x : Int} (hk : k ∈ S.secrets) (h : alook S.signs (k, b) = some x) : signOf S k b = ((x, true), S) := by unfold signOf; rw [if_pos hk, h]
theorem verify_at {S : OS} {p s : Int} (hp : alook S.publics p = some s) (b : List UInt8) (x : Int) : verifyOf S p b x = decide (alook S.signed x = some (s, b)) := by
  unfold verifyOf
  rw [hp]
  cases alook S.signed x with
  | none => simp
  | some q => simp
end Go.Proofs.Ytnppbflccbpoeaa

/- Logs, plainly: what stays true. -/
set_option linter.unusedVariables false
set_option linter.unusedSimpArgs false
set_option maxRecDepth 20000
namespace Go.Proofs.Ytnppbflccbpoeaa
open Go Go.Mx Go.Proofs
def hv (S : OS) (e : Ent) : Int := (alook S.hashes (bytesL e)).getD 0
def sumS (S : OS) (es : List Ent) : Int := match es.getLast? with | none => 0 | some e => hv S e
structure OkAt (S : OS) (wr s : Int) (pre : List Ent) (e : Ent) : Prop where
  right : entRight e = true
  fit : e.fit
  w : e.w = wr
  sg : alook S.signed e.sg = some (s, textL e)
  i : e.i = pre.length
  pv : e.pv = sumS S pre
  late : ∀ x, pre.getLast? = some x → lessS x.t x.tw e.t e.tw = true
def Good (S : OS) (wr s : Int) (es : List Ent) : Prop := ∀ (i : Nat) (e : Ent), es[i]? = some e → OkAt S wr s (es.take i) e ∧ ∃ h, alook S.hashes (bytesL e) = some h
/-- a secret, and its public. -/
structure Keyed (S : OS) (s p : Int) : Prop where
  sec : s ∈ S.secrets
  pub : alook S.publics p = some s
theorem Keyed.le {S S' : OS} {s p : Int} (h : Keyed S s p) (l : OS.le S S') : Keyed S' s p := ⟨l.secrets _ h.sec, l.publics _ _ h.pub⟩
structure LOk (S : OS) (s p : Int) (L : CL) : Prop where
  good : Good S L.wr s L.es
  sum : L.sum = sumS S L.es
  pb : L.pb = p
  few : L.es.length ≤ 200
section
variable {S S' : OS} {s p wr : Int} {L : CL} {e : Ent} {es : List Ent}
theorem hv_le (l : OS.le S S') {h : Int} (hh : alook S.hashes (bytesL e) = some h) : hv S' e = hv S e := by unfold hv; rw [hh, l.hashes _ _ hh]
theorem last_get {es : List Ent} {x : Ent} (h : es.getLast? = some x) : es[es.length - 1]? = some x := by rw [← List.getLast?_eq_getElem?]; exact h
theorem sumS_le (l : OS.le S S') (h : ∀ e ∈ es, ∃ h, alook S.hashes (bytesL e) = some h) : sumS S' es = sumS S es := by
  unfold sumS
  cases hl : es.getLast? with
  | none => rfl
  | some x =>
    obtain ⟨y, hy⟩ := h x (List.mem_of_getElem? (last_get hl))
    exact hv_le l hy
theorem Good.hashed (g : Good S wr s es) : ∀ e ∈ es, ∃ h, alook S.hashes (bytesL e) = some h := fun e he => by
  obtain ⟨i, hi⟩ := List.getElem?_of_mem he
  exact (g i e hi).2
theorem Good.nil : Good S wr s [] := fun i e h => by simp at h
theorem Good.take (g : Good S wr s es) (n : Nat) : Good S wr s (es.take n) := fun i e h => by
  rw [List.getElem?_take] at h
  split at h
  · have := g i e h
    rw [List.take_take, Nat.min_eq_left (by omega)]; exact this
  · cases h
theorem OkAt.le {pre : List Ent} (h : OkAt S wr s pre e) (l : OS.le S S') (hp : ∀ e ∈ pre, ∃ h, alook S.hashes (bytesL e) = some h) : OkAt S' wr s pre e :=
  ⟨h.right, h.fit, h.w, l.signed _ _ h.sg, h.i, by rw [sumS_le l hp]; exact h.pv, h.late⟩
theorem Good.le (g : Good S wr s es) (l : OS.le S S') : Good S' wr s es := fun i e h => by
  obtain ⟨h1, x, hx⟩ := g i e h
  exact ⟨h1.le l (g.take i).hashed, x, l.hashes _ _ hx⟩
theorem Good.add (g : Good S wr s es) (h : OkAt S wr s es e) (hh : ∃ h, alook S.hashes (bytesL e) = some h) : Good S wr s (es ++ [e]) := fun i x hx => by
  by_cases hi : i < es.length
  · rw [List.getElem?_append_left hi] at hx
    have := g i x hx
    rwa [List.take_append_of_le_length (by omega)]
  · have hi2 : i = es.length := by
      have := (List.getElem?_eq_some_iff.1 hx).1
      simp at this; omega
    subst hi2
    rw [List.getElem?_append_right (Nat.le_refl _), Nat.sub_self] at hx
    simp at hx
    subst hx
    rw [List.take_append_of_le_length (Nat.le_refl _), List.take_length]
    exact ⟨h, hh⟩
theorem LOk.nil (wr : Int) : LOk S s p ⟨wr, p, [], 0⟩ := ⟨Good.nil, rfl, rfl, Nat.zero_le _⟩
theorem LOk.le (h : LOk S s p L) (l : OS.le S S') : LOk S' s p L := ⟨h.good.le l, by rw [sumS_le l h.good.hashed]; exact h.sum, h.pb, h.few⟩
theorem sumE_right (hr : entRight e = true) : sumE S e = (((hashOf S (bytesL e)).1, 0), (hashOf S (bytesL e)).2) := by unfold sumE; rw [if_pos hr]
theorem LOk.put (h : LOk S s p L) (inv : OInv S) (he : OkAt S L.wr s L.es e) (hl : L.es.length < 200) : LOk (putC S L e).2 s p (putC S L e).1 ∧ OInv (putC S L e).2 ∧ OS.le S (putC S L e).2 ∧ (putC S L e).2.used.length ≤ S.used.length + 1 := by
  obtain ⟨a1, a2, a3, a4, _⟩ := hash_inv inv (bytesL e)
  have hu := (hashOf_ok inv.ok (bytesL e)).2
  unfold putC
  rw [sumE_right he.right]
  have h' := h.le a2
  refine ⟨⟨h'.good.add (he.le a2 h.good.hashed) ⟨_, a3⟩, ?_, h.pb, by simp; omega⟩, a1, a2, hu⟩
  show (hashOf S (bytesL e)).1 = sumS _ (L.es ++ [e])
  unfold sumS
  rw [List.getLast?_append]
  simp [hv, a3]
theorem LOk.fit (h : LOk S s p L) (inv : OInv S) (hl : S.used.length < 1000000) : 0 ≤ L.sum ∧ L.sum < 18446744073709551616 := by
  rw [h.sum]
  unfold sumS
  cases hl' : L.es.getLast? with
  | none => exact ⟨by show (0 : Int) ≤ 0; decide, by show (0 : Int) < _; decide⟩
  | some x =>
    obtain ⟨y, hy⟩ := h.good.hashed x (List.mem_of_getElem? (last_get hl'))
    show 0 ≤ hv S x ∧ hv S x < _
    unfold hv; rw [hy]
    exact inv.fit (by omega) (inv.hu _ _ hy)
theorem holdsE_iff (hk : Keyed S s p) : holdsE S p e = true ↔ entRight e = true ∧ alook S.signed e.sg = some (s, textL e) := by
  unfold holdsE
  rw [Bool.and_eq_true, verify_at hk.pub, decide_eq_true_eq]
theorem behind_zero (h : behindC L e = 0) : e.pv = L.sum ∧ ∀ x, L.es.getLast? = some x → lessS x.t x.tw e.t e.tw = true := by
  unfold behindC at h
  by_cases hp : e.pv = L.sum
  · rw [if_pos hp] at h
    refine ⟨hp, fun x hx => ?_⟩
    rw [hx] at h
    simp only [] at h
    by_cases hl : lessS x.t x.tw e.t e.tw = true
    · exact hl
    · rw [if_neg hl] at h; cases h
  · rw [if_neg hp] at h; cases h
theorem behind_ok (h1 : e.pv = L.sum) (h2 : ∀ x, L.es.getLast? = some x → lessS x.t x.tw e.t e.tw = true) : behindC L e = 0 := by
  unfold behindC
  rw [if_pos h1]
  cases hl : L.es.getLast? with
  | none => rfl
  | some x => simp only []; rw [if_pos (h2 x hl)]
theorem check_behind (hes : L.es.length ≤ 200) (h : checkC S L e = 0) : behindC L e = 0 := by
  unfold checkC at h
  split at h
  · rename_i h1; exact absurd h h1
  · split at h
    · rename_i h1; exact absurd h h1
    · exact h
theorem LOk.accepted (h : LOk S s p L) (hk : Keyed S s p) (hf : entRight e = true → e.fit) (hc : checkC S L e = 0) : OkAt S L.wr s L.es e ∧ L.es.length < 200 := by
  obtain ⟨q1, q2, q3, q4, q5, q6⟩ := accept_out h.few hc
  rw [h.pb] at q4
  exact ⟨⟨q2, hf q2, q3, ((holdsE_iff hk).1 q4).2, q5, by rw [q6, h.sum], (behind_zero (check_behind h.few hc)).2⟩, q1⟩
theorem LOk.accept (h : LOk S s p L) (inv : OInv S) (hk : Keyed S s p) (hf : entRight e = true → e.fit) : LOk (acceptC S L e).2.2 s p (acceptC S L e).2.1 ∧ OInv (acceptC S L e).2.2 ∧ OS.le S (acceptC S L e).2.2 ∧ (acceptC S L e).2.2.used.length ≤ S.used.length + 1 ∧
    (acceptC S L e).2.1.wr = L.wr ∧ (acceptC S L e).2.1.es = (if (acceptC S L e).1 = 0 then L.es ++ [e] else L.es) := by
  unfold acceptC
  by_cases hc : checkC S L e = 0
  · rw [if_pos hc]
    obtain ⟨h1, h2⟩ := h.accepted hk hf hc
    obtain ⟨a1, a2, a3, a4⟩ := h.put inv h1 h2
    exact ⟨a1, a2, a3, a4, rfl, rfl⟩
  · rw [if_neg hc]
    exact ⟨h, inv, OS.le.refl _, Nat.le_succ _, rfl, by simp only [if_neg hc]⟩
/-- what comes next is accepted. -/
theorem LOk.accepts (h : LOk S s p L) (hk : Keyed S s p) (he : OkAt S L.wr s L.es e) : checkC S L e = 0 := by
  have h1 : rightC S L e = 0 := by
    unfold rightC
    rw [if_pos he.right, if_pos he.w, h.pb, if_pos ((holdsE_iff hk).2 ⟨he.right, he.sg⟩)]
  have h2 : placeC L e = 0 := by
    unfold placeC
    rw [if_neg (by rw [he.i]; omega), if_pos he.i]
  have h3 : behindC L e = 0 := behind_ok (by rw [he.pv, h.sum]) he.late
  unfold checkC
  rw [if_neg (not_not_intro h1), if_neg (not_not_intro h2), h3]
/-- what an issue leaves. -/
theorem LOk.issue (h : LOk S s p L) (inv : OInv S) (hk : Keyed S s p) (hl : S.used.length < 1000000) (t tw ep : Int) (body : List UInt8) :
    LOk (issueC S L s t tw ep body).2.2 s p (issueC S L s t tw ep body).2.1 ∧ OInv (issueC S L s t tw ep body).2.2 ∧ OS.le S (issueC S L s t tw ep body).2.2 ∧ (issueC S L s t tw ep body).2.2.used.length ≤ S.used.length + 2 ∧
    (issueC S L s t tw ep body).2.1.wr = L.wr ∧ (issueC S L s t tw ep body).2.1.es = (if (issueC S L s t tw ep body).1.2 = 0 then L.es ++ [(issueC S L s t tw ep body).1.1] else L.es) ∧
    ((issueC S L s t tw ep body).1.2 = 0 → OkAt (issueC S L s t tw ep body).2.2 L.wr s L.es (issueC S L s t tw ep body).1.1 ∧ L.es.length < 200) ∧ (issueC S L s t tw ep body).1.1.body.length ≤ 1100 ∧ (issueC S L s t tw ep body).1.1.fit := by
  have z0 : Ent.zero.body.length ≤ 1100 := by decide
  have z1 : Ent.zero.fit := ⟨by decide, by decide, by decide, by decide⟩
  unfold issueC
  by_cases h1 : L.es.length ≥ 200
  · rw [if_pos h1]; exact ⟨h, inv, OS.le.refl _, by show S.used.length ≤ _; omega, rfl, rfl, fun h => (by cases h), z0, z1⟩
  rw [if_neg h1]
  by_cases h2 : entRight (nextE L t tw ep body) = true
  · rw [if_pos h2]
    by_cases h3 : behindC L (nextE L t tw ep body) ≠ 0
    · rw [if_pos h3]; exact ⟨h, inv, OS.le.refl _, by show S.used.length ≤ _; omega, rfl, by simp only [if_neg h3], fun h => absurd h h3, z0, z1⟩
    rw [if_neg h3]
    obtain ⟨a1, a2, a3, a4, a5, a6, a7, a8⟩ := sign_inv inv hk.sec (textL (nextE L t tw ep body))
    have hu := (signOf_ok inv.ok s (textL (nextE L t tw ep body))).2
    have hs : signE S s (nextE L t tw ep body) = (({ nextE L t tw ep body with sg := (signOf S s (textL (nextE L t tw ep body))).1.1 }, 0), (signOf S s (textL (nextE L t tw ep body))).2) := by
      unfold signE; rw [if_pos h2, if_pos a3]
    rw [hs]
    rw [if_neg (by simp)]
    have hb3 := behind_zero (Decidable.not_not.1 h3)
    have hsgfit := a1.fit (by omega) (a1.su _ _ a4)
    have hsum := h.fit inv hl
    have hok : OkAt (signOf S s (textL (nextE L t tw ep body))).2 L.wr s L.es { nextE L t tw ep body with sg := (signOf S s (textL (nextE L t tw ep body))).1.1 } :=
      ⟨h2, ⟨hsum.1, hsum.2, hsgfit.1, hsgfit.2⟩, rfl, a4, rfl, by rw [sumS_le a2 h.good.hashed]; exact h.sum, hb3.2⟩
    obtain ⟨b1, b2, b3, b4⟩ := (h.le a2).put a1 hok (by omega)
    refine ⟨b1, b2, a2.trans b3, Nat.le_trans b4 (by omega), rfl, rfl, fun _ => ⟨hok.le b3 ((h.le a2).good.hashed), by omega⟩, ((entRight_iff _).1 h2).2.2.2.2.2.2.2.2.2.1, hok.fit⟩
  · rw [if_neg h2]; exact ⟨h, inv, OS.le.refl _, by show S.used.length ≤ _; omega, rfl, rfl, fun h => (by cases h), z0, z1⟩
theorem issue_sg (inv : OInv S) (hl : S.used.length < 1000000) (b : List UInt8) (hk : Keyed S s p) : 0 ≤ (signOf S s b).1.1 ∧ (signOf S s b).1.1 < 18446744073709551616 := by
  obtain ⟨a1, a2, a3, a4, a5, a6, a7, a8⟩ := sign_inv inv hk.sec b
  have hu := (signOf_ok inv.ok s b).2
  exact a1.fit (by omega) (a1.su _ _ a4)
end
end Go.Proofs.Ytnppbflccbpoeaa

/- The reference's oracle: one list of all that was handed out. -/
set_option linter.unusedVariables false
set_option linter.unusedSimpArgs false
set_option maxRecDepth 20000
namespace Go.Proofs.Ytnppbflccbpoeaa
open Go Go.Mx Go.Proofs
/-- a row. -/
structure RRow where
  h : Int
  kind : Int
  A : List UInt8
  B : List UInt8
  n : Int
  m : Int
/-- a row, and where its bytes lie. -/
structure PR where
  r : RRow
  aA : Option Addr
  cA : Nat
  aB : Option Addr
  cB : Nat
def PR.C (x : PR) : List Value := [.int .u64 x.r.h, .int .i64 x.r.kind, .slice x.aA x.r.A.length x.cA, .slice x.aB x.r.B.length x.cB, .int .u64 x.r.n, .int .u64 x.r.m]
def PR.ok (w : World) (o : Own) (x : PR) : Prop := Row w o x.aA (bytesV x.r.A) ∧ Row w o x.aB (bytesV x.r.B) ∧ x.r.A.length ≤ x.cA ∧ x.r.B.length ≤ x.cB
def PR.Cs (R : List PR) : List Value := R.flatMap PR.C
structure ROrcP (w : World) (o : Own) (k : Nat) (d : List Int) (R : List PR) : Prop where
  tk : o k = some k
  at_ : ∃ da dc la lc, Blk w k 56 [.slice da d.length dc, .slice la R.length lc] ∧ d.length ≤ dc ∧ Row w o da (d.map u64V) ∧ Grows 97 6 w o k la R.length lc (PR.Cs R) ∧ (∀ ad, la = some ad → ad.block ≠ k)
  rows : ∀ x ∈ R, x.ok w o
def ROrc (w : World) (o : Own) (k : Nat) (d : List Int) (L : List RRow) : Prop := ∃ R, L = R.map PR.r ∧ ROrcP w o k d R
theorem PR.Cs_get : ∀ {R : List PR} {i : Nat} {x : PR}, R[i]? = some x → ∀ j, j < 6 → (PR.Cs R)[i * 6 + j]? = x.C[j]?
  | [], i, x, hi, j, hj => by simp at hi
  | a :: r, 0, x, hi, j, hj => by
    simp only [List.getElem?_cons_zero, Option.some.injEq] at hi
    subst hi
    simp only [PR.Cs, List.flatMap_cons, Nat.zero_mul, Nat.zero_add]
    rw [List.getElem?_append_left (by simp [PR.C]; omega)]
  | a :: r, i + 1, x, hi, j, hj => by
    simp only [List.getElem?_cons_succ] at hi
    have := PR.Cs_get hi j hj
    simp only [PR.Cs, List.flatMap_cons] at this ⊢
    rw [List.getElem?_append_right (by simp [PR.C]; omega), show (i + 1) * 6 + j - a.C.length = i * 6 + j by simp [PR.C]; omega]
    exact this
theorem PR.one (x : PR) : ∀ u ∈ x.C, u.oneCell' = true := fun u hu => by
  simp only [PR.C, List.mem_cons, List.not_mem_nil, or_false] at hu
  rcases hu with rfl | rfl | rfl | rfl | rfl | rfl <;> rfl
section
variable {w w' : World} {o o' : Own} {k : Nat} {K : Nat → Prop} {d : List Int} {R : List PR} {L : List RRow}
theorem PR.ok.step {x : PR} (h : x.ok w o) (s : Step K w o w' o') : x.ok w' o' := ⟨h.1.step s, h.2.1.step s, h.2.2⟩
theorem ROrcP.lt (h : ROrcP w o k d R) : k < w.heap.size := by obtain ⟨da, dc, la, lc, hb, _⟩ := h.at_; exact hb.lt
theorem ROrcP.step (h : ROrcP w o k d R) (s : Step K w o w' o') (hk : ¬ K k) : ROrcP w' o' k d R := by
  obtain ⟨da, dc, la, lc, h1, h2, h3, h4, h5⟩ := h.at_
  exact ⟨by rw [s.own h.lt]; exact h.tk, ⟨da, dc, la, lc, s.blk h1 h.tk hk, h2, h3.step s, h4.step s hk, h5⟩, fun x hx => (h.rows x hx).step s⟩
theorem ROrc.step (h : ROrc w o k d L) (s : Step K w o w' o') (hk : ¬ K k) : ROrc w' o' k d L := by
  obtain ⟨R, h1, h2⟩ := h; exact ⟨R, h1, h2.step s hk⟩
theorem ROrc.lt (h : ROrc w o k d L) : k < w.heap.size := by obtain ⟨R, _, h⟩ := h; exact h.lt
theorem ROrc.own (h : ROrc w o k d L) : o k = some k := by obtain ⟨R, _, h⟩ := h; exact h.tk
/-- a fresh handle, and the draws that are left. -/
def freshR (d used : List Int) : Int × List Int := match pickD d used with | some q => q | none => (pickN used (used.length + 1) 1, [])
def putR (d : List Int) (L : List RRow) (r : RRow) : Int × List Int × List RRow :=
  ((freshR d (L.map RRow.h)).1, (freshR d (L.map RRow.h)).2, L ++ [{ r with h := (freshR d (L.map RRow.h)).1 }])
end
end Go.Proofs.Ytnppbflccbpoeaa

/- The reference's oracle: what its calls answer. -/
set_option linter.unusedVariables false
set_option linter.unusedSimpArgs false
set_option maxRecDepth 20000
namespace Go.Proofs.Ytnppbflccbpoeaa
open Go Go.Mx Go.Proofs
def isR (L : List RRow) (x kind : Int) : Option RRow := (L.find? fun r => r.h == x).bind fun r => if r.kind = kind then some r else none
def hashR (d : List Int) (L : List RRow) (b : List UInt8) : Int × List Int × List RRow :=
  match L.find? (fun r => r.kind == 1 && decide (r.A = b)) with
  | some r => (r.h, d, L)
  | none => putR d L ⟨0, 1, b, [], 0, 0⟩
def pairR (d : List Int) (L : List RRow) : (Int × Int) × List Int × List RRow :=
  let p := putR d L ⟨0, 3, [], [], 0, 0⟩
  let q := putR p.2.1 p.2.2 ⟨0, 4, [], [], p.1, 0⟩
  ((p.1, q.1), q.2)
def signR (d : List Int) (L : List RRow) (s : Int) (b : List UInt8) : (Int × Int) × List Int × List RRow :=
  match isR L s 3 with
  | none => ((0, 11), d, L)
  | some _ =>
    match L.find? (fun r => r.kind == 5 && (r.n == s && decide (r.A = b))) with
    | some r => ((r.h, 0), d, L)
    | none => let q := putR d L ⟨0, 5, b, [], s, 0⟩; ((q.1, 0), q.2)
def PR.V (x : PR) : Value := .agg #[.int .u64 x.r.h, .int .i64 x.r.kind, .slice x.aA x.r.A.length x.cA, .slice x.aB x.r.B.length x.cB, .int .u64 x.r.n, .int .u64 x.r.m]
section
variable {w w' : World} {o o' : Own} {k : Nat} {K : Nat → Prop} {d : List Int} {R : List PR} {L : List RRow}
theorem freshR_draws {d used : List Int} (hd : ∀ x ∈ d, 0 ≤ x ∧ x < 18446744073709551616) : ∀ x ∈ (freshR d used).2, 0 ≤ x ∧ x < 18446744073709551616 := fun x hx => by
  unfold freshR at hx
  cases hp : pickD d used with
  | none => rw [hp] at hx; simp at hx
  | some q => obtain ⟨a, b⟩ := q; rw [hp] at hx; exact hd x (pickD_rest hp x hx)
theorem putR_len (d : List Int) (L : List RRow) (r : RRow) : (putR d L r).2.2.length = L.length + 1 := by simp [putR]
end
end Go.Proofs.Ytnppbflccbpoeaa

/- The two oracles side by side: tables against rows. -/
set_option linter.unusedVariables false
set_option linter.unusedSimpArgs false
namespace Go.Proofs.Ytnppbflccbpoeaa
open Go Go.Mx Go.Proofs
structure Sim (S : OS) (d : List Int) (L : List RRow) : Prop where
  ok : S.ok
  dr : S.draws = d
  us : S.used = L.map RRow.h
  nd : (L.map RRow.h).Nodup
  nz : ∀ r ∈ L, r.h ≠ 0
  hs : ∀ b x, alook S.hashes b = some x ↔ ∃ r ∈ L, r.kind = 1 ∧ r.A = b ∧ r.h = x
  ky : ∀ k, k ∈ S.keys ↔ ∃ r ∈ L, r.kind = 2 ∧ r.h = k
  sc : ∀ s, s ∈ S.secrets ↔ ∃ r ∈ L, r.kind = 3 ∧ r.h = s
  pb : ∀ p s, alook S.publics p = some s ↔ ∃ r ∈ L, r.kind = 4 ∧ r.h = p ∧ r.n = s
  sg : ∀ q x, alook S.signs q = some x ↔ ∃ r ∈ L, r.kind = 5 ∧ (r.n, r.A) = q ∧ r.h = x
  sd : ∀ x q, alook S.signed x = some q ↔ ∃ r ∈ L, r.kind = 5 ∧ (r.n, r.A) = q ∧ r.h = x
  se : ∀ x q, alook S.sealed x = some q ↔ ∃ r ∈ L, r.kind = 6 ∧ r.h = x ∧ q = ⟨r.n, r.A, r.B⟩
  wr : ∀ x q, alook S.wrapped x = some q ↔ ∃ r ∈ L, r.kind = 7 ∧ r.h = x ∧ (r.n, r.m) = q
theorem Sim.init {l : List Int} (hl : ∀ d ∈ l, 0 ≤ d ∧ d < 18446744073709551616) : Sim (OS.init l) l [] := by
  refine ⟨OS.init_ok l hl, rfl, rfl, by simp, by simp, ?_, ?_, ?_, ?_, ?_, ?_, ?_, ?_⟩ <;> simp [OS.init, alook]
section
variable {S : OS} {d : List Int} {L : List RRow}
theorem Sim.mem_used (h : Sim S d L) {r : RRow} (hr : r ∈ L) : r.h ∈ S.used := by rw [h.us]; exact List.mem_map_of_mem hr
/-- the same handle. -/
theorem Sim.fresh (h : Sim S d L) (r : RRow) : (putR d L r).1 = (freshOf S).1 ∧ (putR d L r).2.1 = (freshOf S).2.draws := by
  obtain ⟨h1, h2, h3, h4⟩ := h.ok
  unfold putR freshOf freshR
  rw [← h.us, ← h.dr]
  cases hp : pickD S.draws S.used with
  | some q => exact ⟨rfl, rfl⟩
  | none =>
    refine ⟨?_, rfl⟩
    obtain ⟨a1, a2, a3, a4, a5⟩ := pickN_spec S.used (S.used.length + 1) S.next h1 (gap S.used _ _ (by omega))
    obtain ⟨b1, b2, b3, b4, b5⟩ := pickN_spec S.used (S.used.length + 1) 1 (Int.le_refl _) (gap S.used _ _ (by omega))
    show pickN S.used (S.used.length + 1) 1 = pickN S.used (S.used.length + 1) S.next
    generalize pickN S.used (S.used.length + 1) 1 = x at *
    generalize pickN S.used (S.used.length + 1) S.next = y at *
    rcases Int.lt_trichotomy x y with c | c | c
    · exfalso
      by_cases hx : x < S.next
      · exact b3 (h2 x b1 hx)
      · exact b3 (a5 x (by omega) c)
    · exact c
    · exact absurd (b5 y (by omega) c) a3
/-- a row more: all but the tables. -/
theorem Sim.put (h : Sim S d L) (r : RRow) : (freshOf S).2.ok ∧ (freshOf S).2.draws = (putR d L r).2.1 ∧ (freshOf S).2.used = (putR d L r).2.2.map RRow.h ∧ ((putR d L r).2.2.map RRow.h).Nodup ∧ (∀ z ∈ (putR d L r).2.2, z.h ≠ 0) ∧
    (putR d L r).2.2 = L ++ [{ r with h := (freshOf S).1 }] ∧ (∀ z ∈ L, z.h ≠ (freshOf S).1) := by
  obtain ⟨a1, a2, a3, a4⟩ := freshOf_spec h.ok
  obtain ⟨b1, b2⟩ := h.fresh r
  have e : (putR d L r).2.2 = L ++ [{ r with h := (freshOf S).1 }] := by rw [← b1]; rfl
  have hne : ∀ z ∈ L, z.h ≠ (freshOf S).1 := fun z hz he => a2 (he ▸ h.mem_used hz)
  refine ⟨a4, b2.symm, by rw [a3, e, h.us]; simp, ?_, ?_, e, hne⟩
  · rw [e, List.map_append, List.nodup_append]
    refine ⟨h.nd, by simp, fun a ha b hb => ?_⟩
    obtain ⟨z, hz, rfl⟩ := List.mem_map.1 ha
    simp at hb; subst hb; exact hne z hz
  · rw [e]
    intro z hz
    rcases List.mem_append.1 hz with hz | hz
    · exact h.nz z hz
    · simp at hz; subst hz; exact a1
theorem Sim.find (h : Sim S d L) {p : RRow → Bool} {x : Int} (hx : ∃ r ∈ L, p r = true ∧ r.h = x) (hu : ∀ r ∈ L, p r = true → r.h = x) : ∃ r, L.find? p = some r ∧ r.h = x := by
  cases hf : L.find? p with
  | none => obtain ⟨r, a, b, _⟩ := hx; rw [List.find?_eq_none] at hf; exact absurd b (hf r a)
  | some r => exact ⟨r, rfl, hu r (List.mem_of_find?_eq_some hf) (List.find?_some hf)⟩
end
end Go.Proofs.Ytnppbflccbpoeaa

/- The reference's rows, few and short; both oracles. -/
set_option linter.unusedVariables false
set_option linter.unusedSimpArgs false
set_option maxRecDepth 20000
namespace Go.Proofs.Ytnppbflccbpoeaa
open Go Go.Mx Go.Proofs
/-- the rows are few, and short. -/
structure RFine (n : Nat) (d : List Int) (L : List RRow) : Prop where
  draws : ∀ x ∈ d, 0 ≤ x ∧ x < 18446744073709551616
  short : L.length ≤ n
  bytes : ∀ r ∈ L, r.A.length < 1000000 ∧ r.B.length < 1000000
section
variable {w w' : World} {o o' : Own} {k n : Nat} {K : Nat → Prop} {S : OS} {d : List Int} {L : List RRow}
theorem RFine.more (h : RFine n d L) : RFine (n + 1) d L := ⟨h.draws, Nat.le_succ_of_le h.short, h.bytes⟩
theorem RFine.put (h : RFine n d L) (r : RRow) (hr : r.A.length < 1000000 ∧ r.B.length < 1000000) : RFine (n + 1) (putR d L r).2.1 (putR d L r).2.2 := by
  refine ⟨freshR_draws h.draws, ?_, fun z hz => ?_⟩
  · have := h.short; rw [putR_len]; omega
  · rcases List.mem_append.1 hz with hz | hz
    · exact h.bytes z hz
    · simp at hz; subst hz; exact hr
theorem RFine.hash (h : RFine n d L) {b : List UInt8} (hb : b.length < 1000000) : RFine (n + 1) (hashR d L b).2.1 (hashR d L b).2.2 := by
  unfold hashR
  split
  · exact h.more
  · exact h.put _ ⟨hb, by show (0 : Nat) < _; decide⟩
theorem RFine.pair (h : RFine n d L) : RFine (n + 2) (pairR d L).2.1 (pairR d L).2.2 :=
  (h.put ⟨0, 3, [], [], 0, 0⟩ (by decide)).put _ ⟨by show (0 : Nat) < _; decide, by show (0 : Nat) < _; decide⟩
theorem RFine.sign (h : RFine n d L) (s : Int) {b : List UInt8} (hb : b.length < 1000000) : RFine (n + 1) (signR d L s b).2.1 (signR d L s b).2.2 := by
  unfold signR
  split
  · exact h.more
  · split
    · exact h.more
    · exact h.put _ ⟨hb, by show (0 : Nat) < _; decide⟩
/-- both oracles. -/
structure Two (w : World) (o : Own) (k j : Nat) (S : OS) (d : List Int) (L : List RRow) (n : Nat) : Prop where
  p : POrc w o k S
  r : ROrc w o j d L
  sim : Sim S d L
  inv : OInv S
  fine : RFine n d L
  ok : Tags w o
  ne : k ≠ j
variable {j : Nat}
theorem Two.step (h : Two w o k j S d L n) (s : Step no w o w' o') : Two w' o' k j S d L n := ⟨h.p.step s id, h.r.step s id, h.sim, h.inv, h.fine, s.ok, h.ne⟩
theorem Two.len (h : Two w o k j S d L n) : S.used.length ≤ n := by rw [h.sim.us, List.length_map]; exact h.fine.short
theorem Two.turn {w1 : World} {o1 : Own} {S' : OS} {d' : List Int} {L' : List RRow} {n' : Nat} (h : Two w o k j S d L n) (s1 : Step (fun i => i = k) w o w1 o1) (p1 : POrc w1 o1 k S') (s2 : Step (fun i => i = j) w1 o1 w' o') (r2 : ROrc w' o' j d' L')
    (sim : Sim S' d' L') (inv : OInv S') (fine : RFine n' d' L') : Two w' o' k j S' d' L' n' ∧ Step (fun i => i = k ∨ i = j) w o w' o' :=
  ⟨⟨p1.step s2 h.ne, r2, sim, inv, fine, s2.ok, h.ne⟩, (s1.mono fun _ h _ => .inl h).trans (s2.mono fun _ h _ => .inr h)⟩
end
/-- the reference's, as it is made. -/
theorem ROrc.init {w w' : World} {o : Own} {q : Nat} {da : Option Addr} {dc : Nat} {d : List Int} (X : Ext no w w') (hb : Blk w' q 56 [.slice da d.length dc, .slice none 0 0]) (h1 : w.heap.size ≤ q) (h2 : q < w'.heap.size) (ok : Tags w o) (hd : Row w o da (d.map u64V)) (hc : d.length ≤ dc) :
    ∃ o', Step no w o w' o' ∧ ROrc w' o' q d [] := by
  have s := (Step.of_no X ok).tag h1 h2
  refine ⟨_, s, [], rfl, tag_self, ⟨da, dc, none, 0, hb, hc, hd.step s, Grows.nil _ _ _ _ _, fun ad ha => by cases ha⟩, fun x hx => by cases hx⟩
end Go.Proofs.Ytnppbflccbpoeaa

/- The reference's entries with its oracle. -/
set_option linter.unusedVariables false
set_option linter.unusedSimpArgs false
set_option maxRecDepth 20000
namespace Go.Proofs.Ytnppbflccbpoeaa
open Go Go.Mx Go.Proofs
open W (OwnB GivesW numR countR doneR zig unzig intR)
section
variable {w w' : World} {o o' : Own} {k n : Nat} {K : Nat → Prop} {S : OS} {d : List Int} {L : List RRow}
theorem bytesL_le' {e : Ent} (hr : entRight e = true) : (bytesL e).length ≤ 1200 := by have := bytesK_le e; unfold bytesK at this; rw [if_pos hr] at this; exact this
def sumR (d : List Int) (L : List RRow) (e : Ent) : (Int × Int) × List Int × List RRow := if entRight e = true then (((hashR d L (bytesL e)).1, 0), (hashR d L (bytesL e)).2) else ((0, 1), d, L)
theorem RFine.sum (h : RFine n d L) (e : Ent) : RFine (n + 1) (sumR d L e).2.1 (sumR d L e).2.2 := by
  unfold sumR
  split
  · rename_i hr; exact h.hash (by have := bytesL_le' hr; omega)
  · exact h.more
end
end Go.Proofs.Ytnppbflccbpoeaa

/- Entries and a head that are handed in. -/
set_option linter.unusedVariables false
set_option linter.unusedSimpArgs false
set_option maxRecDepth 20000
namespace Go.Proofs.Ytnppbflccbpoeaa
open Go Go.Mx Go.Proofs
end Go.Proofs.Ytnppbflccbpoeaa

/- Chain's laws: what is handed in; the example; all entries held against each other. -/
set_option linter.unusedVariables false
set_option linter.unusedSimpArgs false
set_option maxRecDepth 20000
set_option maxHeartbeats 2000000
namespace Go.Proofs.Ytnppbflccbpoeaa
open Go Go.Mx Go.Proofs
open W (OwnB GivesW numR countR doneR zig unzig intR)
/-- cachettelaw07.light -/
def cachettelaw07_light.M (draws1a : Option Addr) (draws1n : Nat) (draws1c : Nat) (l2a : Option Addr) (l2n : Nat) (l2c : Nat) (R : Value → World → Prop) (w : World) : Prop :=
  bif decide ((draws1n : Int) > 50) then (
  R (.bool false) w) else (
  bif decide ((l2n : Int) > 40) then (
  R (.bool false) w) else (
  ∃ (I0 : Nat → List Value → World → Prop) (m4 : Nat), I0 m4 [.int .i64 0] w ∧ ∀ (m5 : Nat) (ww6 : World) (i3 : Int), I0 m5 [.int .i64 i3] ww6 →
  bif decide (i3 < (l2n : Int)) then (
  l2a.elim False fun a7 =>
  0 ≤ (i3 : Int) ∧ (i3 : Int) < (l2n : Int) ∧
  ∃ (Body8a : Option Addr) (Body8n : Nat) (Body8c : Nat), ww6.cell? ((a7.add (Int.toNat i3 * 14)).add 3) = some (.slice Body8a Body8n Body8c) ∧
  bif decide ((Body8n : Int) > 1200) then (
  R (.bool false) ww6) else (
  l2a.elim False fun a9 =>
  0 ≤ (i3 : Int) ∧ (i3 : Int) < (l2n : Int) ∧
  ∃ (Body10a : Option Addr) (Body10n : Nat) (Body10c : Nat), ww6.cell? (((a9.add (Int.toNat i3 * 14)).add 6).add 6) = some (.slice Body10a Body10n Body10c) ∧
  bif decide ((Body10n : Int) > 1200) then (
  R (.bool false) ww6) else (
  ∃ m11, m11 < m5 ∧ I0 m11 [.int .i64 (IntKind.i64.wrap (i3 + 1))] ww6))) else (
  R (.bool true) ww6)))

theorem cachettelaw07_light.eq (draws1a : Option Addr) (draws1n : Nat) (draws1c : Nat) (l2a : Option Addr) (l2n : Nat) (l2c : Nat) (R : Value → World → Prop) (w : World) : mfunc Try.prog [(0, [1], [(5, (.one (.int .i64)))])] 9 [.slice draws1a draws1n draws1c, .slice l2a l2n l2c] R w = cachettelaw07_light.M draws1a draws1n draws1c l2a l2n l2c R w := by kernel_rfl
theorem cachettelaw07_light.ok (draws1a : Option Addr) (draws1n : Nat) (draws1c : Nat) (l2a : Option Addr) (l2n : Nat) (l2c : Nat) {R : Value → World → Prop} {w : World} (h : cachettelaw07_light.M draws1a draws1n draws1c l2a l2n l2c R w) : Calls Try.prog 9 #[.slice draws1a draws1n draws1c, .slice l2a l2n l2c] w fun e w' => ∃ v, e = .returned v ∧ R v w' :=
  mfunc_ok follows (H := [(0, [1], [(5, (.one (.int .i64)))])]) (args := [.slice draws1a draws1n draws1c, .slice l2a l2n l2c]) (by rw [cachettelaw07_light.eq]; exact h)

def cachettelaw07_light.N (draws1a : Option Addr) (draws1n : Nat) (draws1c : Nat) (l2a : Option Addr) (l2n : Nat) (l2c : Nat) (R : Value → World → Prop) (w : World) : Prop :=
  ((draws1n : Int) > 50 →
    R (.bool false) w) ∧
  ((draws1n : Int) ≤ 50 →
    ((l2n : Int) > 40 →
      R (.bool false) w) ∧
    ((l2n : Int) ≤ 40 →
      ∃ (I0 : Nat → List Value → World → Prop) (m6 : Nat), I0 m6 [.int .i64 0] w ∧ ∀ (m7 : Nat) (ww8 : World) (i5 : Int), I0 m7 [.int .i64 i5] ww8 →
      (i5 < (l2n : Int) →
        ∃ a10 : Addr, l2a = some a10 ∧
        0 ≤ (i5 : Int) ∧ (i5 : Int) < (l2n : Int) ∧
        ∃ (Body12a : Option Addr) (Body12n : Nat) (Body12c : Nat), ww8.cell? ((a10.add (Int.toNat i5 * 14)).add 3) = some (.slice Body12a Body12n Body12c) ∧
        ((Body12n : Int) > 1200 →
          R (.bool false) ww8) ∧
        ((Body12n : Int) ≤ 1200 →
          0 ≤ (i5 : Int) ∧ (i5 : Int) < (l2n : Int) ∧
          ∃ (Body15a : Option Addr) (Body15n : Nat) (Body15c : Nat), ww8.cell? (((a10.add (Int.toNat i5 * 14)).add 6).add 6) = some (.slice Body15a Body15n Body15c) ∧
          ((Body15n : Int) > 1200 →
            R (.bool false) ww8) ∧
          ((Body15n : Int) ≤ 1200 →
            (-9223372036854775808 : Int) ≤ (i5 + 1) ∧ (i5 + 1) < 9223372036854775808 ∧
            ∃ m17, m17 < m7 ∧ I0 m17 [.int .i64 (i5 + 1)] ww8))) ∧
      ((l2n : Int) ≤ i5 →
        R (.bool true) ww8)))

theorem cachettelaw07_light.up (draws1a : Option Addr) (draws1n : Nat) (draws1c : Nat) (l2a : Option Addr) (l2n : Nat) (l2c : Nat) {R : Value → World → Prop} {w : World} (h : cachettelaw07_light.N draws1a draws1n draws1c l2a l2n l2c R w) : cachettelaw07_light.M draws1a draws1n draws1c l2a l2n l2c R w := by
  unfold cachettelaw07_light.M
  unfold cachettelaw07_light.N at h
  refine bif_of (fun c3 => ?_) (fun c3 => ?_)
  · have h := h.1 (of_decide_eq_true c3)
    exact h
  · have h := h.2 (Int.not_lt.1 (of_decide_eq_false c3))
    refine bif_of (fun c4 => ?_) (fun c4 => ?_)
    · have h := h.1 (of_decide_eq_true c4)
      exact h
    · have h := h.2 (Int.not_lt.1 (of_decide_eq_false c4))
      obtain ⟨I0, m6, h0, h⟩ := h
      refine ⟨I0, m6, h0, fun m7 ww8 i5 hI => ?_⟩
      have h := h m7 ww8 i5 hI
      refine bif_of (fun c9 => ?_) (fun c9 => ?_)
      · have h := h.1 (of_decide_eq_true c9)
        obtain ⟨a10, ha10, h⟩ := h
        refine elim_some ha10 ?_
        obtain ⟨hq1, hq2, h⟩ := h
        refine ⟨hq1, hq2, ?_⟩
        obtain ⟨Body12a, Body12n, Body12c, hc11, h⟩ := h
        refine ⟨Body12a, Body12n, Body12c, hc11, ?_⟩
        refine bif_of (fun c13 => ?_) (fun c13 => ?_)
        · have h := h.1 (of_decide_eq_true c13)
          exact h
        · have h := h.2 (Int.not_lt.1 (of_decide_eq_false c13))
          refine elim_some ha10 ?_
          obtain ⟨hq1, hq2, h⟩ := h
          refine ⟨hq1, hq2, ?_⟩
          obtain ⟨Body15a, Body15n, Body15c, hc14, h⟩ := h
          refine ⟨Body15a, Body15n, Body15c, hc14, ?_⟩
          refine bif_of (fun c16 => ?_) (fun c16 => ?_)
          · have h := h.1 (of_decide_eq_true c16)
            exact h
          · have h := h.2 (Int.not_lt.1 (of_decide_eq_false c16))
            obtain ⟨hw1, hw2, h⟩ := h
            try rw [w64 hw1 hw2]
            obtain ⟨m17, hk, h⟩ := h
            exact ⟨m17, hk, h⟩
      · have h := h.2 (Int.not_lt.1 (of_decide_eq_false c9))
        exact h

theorem cachettelaw07_light.go (draws1a : Option Addr) (draws1n : Nat) (draws1c : Nat) (l2a : Option Addr) (l2n : Nat) (l2c : Nat) {R : Value → World → Prop} {w : World} (h : cachettelaw07_light.N draws1a draws1n draws1c l2a l2n l2c R w) : Calls Try.prog 9 #[.slice draws1a draws1n draws1c, .slice l2a l2n l2c] w fun e w' => ∃ v, e = .returned v ∧ R v w' := cachettelaw07_light.ok draws1a draws1n draws1c l2a l2n l2c (cachettelaw07_light.up draws1a draws1n draws1c l2a l2n l2c h)
theorem cachettelaw07_light.run (draws1a : Option Addr) (draws1n : Nat) (draws1c : Nat) (l2a : Option Addr) (l2n : Nat) (l2c : Nat) {V : Value} {Q : World → Prop} {w : World} (h : cachettelaw07_light.N draws1a draws1n draws1c l2a l2n l2c (fun v w' => v = V ∧ Q w') w) : Calls Try.prog 9 #[.slice draws1a draws1n draws1c, .slice l2a l2n l2c] w (Ret V Q) := (cachettelaw07_light.go draws1a draws1n draws1c l2a l2n l2c h).mono fun e w' ⟨v, he, hv, hq⟩ => ⟨by rw [he, hv], hq⟩

/-- cachettelaw07.alive -/
def cachettelaw07_alive.M  (R : Value → World → Prop) (w : World) : Prop :=
  Calls Try.prog 11 #[.slice none 0 0] w fun ee2 ww3 => ∃ (new1 : Option Addr), ee2 = .returned (.pointer new1) ∧
  Calls Try.prog 12 #[.pointer new1] ww3 fun ee6 ww7 => ∃ (pair4 : Int) (pair5 : Int), ee6 = .returned (.tuple #[.int .u64 pair4, .int .u64 pair5]) ∧
  Calls Try.prog 13 #[.pointer new1, .int .i64 1, .int .u64 pair5] ww7 fun ee10 ww11 => ∃ (new8 : Option Addr) (new9 : Int), ee10 = .returned (.tuple #[.pointer new8, .int .i64 new9]) ∧
  thenW (ww11.alloc (.cells #[.int .u8 120] 5)) fun ww12 =>
  ∃ (c13a : Option Addr) (c13n : Nat) (c13c : Nat) (ww14 : World), (convert 24 24 (.slice (some (blk ww11.heap.size)) 1 1)).run Try.prog ww12 = .ok (.slice c13a c13n c13c) ww14 ∧
  Calls Try.prog 14 #[.pointer new8, .int .u64 pair4, .agg #[.int .i64 1, .int .i64 1], .int .i64 0, .slice c13a c13n c13c] ww14 fun ee24 ww25 => ∃ (Writer15 : Int) (Index16 : Int) (Prev17 : Int) (AtT18 : Int) (AtW19 : Int) (Epoch20 : Int) (Body21a : Option Addr) (Body21n : Nat) (Body21c : Nat) (Sig22 : Int) (issue23 : Int), ee24 = .returned (.tuple #[.agg #[.int .i64 Writer15, .int .i64 Index16, .int .u64 Prev17, .int .i64 AtT18, .int .i64 AtW19, .int .i64 Epoch20, .slice Body21a Body21n Body21c, .int .u64 Sig22], .int .i64 issue23]) ∧
  thenW (ww25.alloc (.cells #[.int .i64 0, .int .i64 0, .int .u64 0, .int .i64 0, .int .i64 0, .int .i64 0, .slice none 0 0, .int .u64 0] 39)) fun ww26 =>
  canStore ww26 ((blk ww25.heap.size).add 0) ∧
  thenW (ww26.setCell ((blk ww25.heap.size).add 0) (.int .i64 Writer15)) fun ww27 =>
  canStore ww27 ((blk ww25.heap.size).add 1) ∧
  thenW (ww27.setCell ((blk ww25.heap.size).add 1) (.int .i64 Index16)) fun ww28 =>
  canStore ww28 ((blk ww25.heap.size).add 2) ∧
  thenW (ww28.setCell ((blk ww25.heap.size).add 2) (.int .u64 Prev17)) fun ww29 =>
  canStore ww29 ((blk ww25.heap.size).add 3) ∧
  thenW (ww29.setCell ((blk ww25.heap.size).add 3) (.int .i64 AtT18)) fun ww30 =>
  canStore ww30 ((blk ww25.heap.size).add 4) ∧
  thenW (ww30.setCell ((blk ww25.heap.size).add 4) (.int .i64 AtW19)) fun ww31 =>
  canStore ww31 ((blk ww25.heap.size).add 5) ∧
  thenW (ww31.setCell ((blk ww25.heap.size).add 5) (.int .i64 Epoch20)) fun ww32 =>
  canStore ww32 ((blk ww25.heap.size).add 6) ∧
  thenW (ww32.setCell ((blk ww25.heap.size).add 6) (.slice Body21a Body21n Body21c)) fun ww33 =>
  canStore ww33 ((blk ww25.heap.size).add 7) ∧
  thenW (ww33.setCell ((blk ww25.heap.size).add 7) (.int .u64 Sig22)) fun ww34 =>
  Calls Try.prog 14 #[.pointer new8, .int .u64 pair4, .agg #[.int .i64 2, .int .i64 1], .int .i64 0, .slice none 0 0] ww34 fun ee44 ww45 => ∃ (Writer35 : Int) (Index36 : Int) (Prev37 : Int) (AtT38 : Int) (AtW39 : Int) (Epoch40 : Int) (Body41a : Option Addr) (Body41n : Nat) (Body41c : Nat) (Sig42 : Int) (issue43 : Int), ee44 = .returned (.tuple #[.agg #[.int .i64 Writer35, .int .i64 Index36, .int .u64 Prev37, .int .i64 AtT38, .int .i64 AtW39, .int .i64 Epoch40, .slice Body41a Body41n Body41c, .int .u64 Sig42], .int .i64 issue43]) ∧
  thenW (ww45.alloc (.cells #[.int .i64 0, .int .i64 0, .int .u64 0, .int .i64 0, .int .i64 0, .int .i64 0, .slice none 0 0, .int .u64 0] 39)) fun ww46 =>
  canStore ww46 ((blk ww45.heap.size).add 0) ∧
  thenW (ww46.setCell ((blk ww45.heap.size).add 0) (.int .i64 Writer35)) fun ww47 =>
  canStore ww47 ((blk ww45.heap.size).add 1) ∧
  thenW (ww47.setCell ((blk ww45.heap.size).add 1) (.int .i64 Index36)) fun ww48 =>
  canStore ww48 ((blk ww45.heap.size).add 2) ∧
  thenW (ww48.setCell ((blk ww45.heap.size).add 2) (.int .u64 Prev37)) fun ww49 =>
  canStore ww49 ((blk ww45.heap.size).add 3) ∧
  thenW (ww49.setCell ((blk ww45.heap.size).add 3) (.int .i64 AtT38)) fun ww50 =>
  canStore ww50 ((blk ww45.heap.size).add 4) ∧
  thenW (ww50.setCell ((blk ww45.heap.size).add 4) (.int .i64 AtW39)) fun ww51 =>
  canStore ww51 ((blk ww45.heap.size).add 5) ∧
  thenW (ww51.setCell ((blk ww45.heap.size).add 5) (.int .i64 Epoch40)) fun ww52 =>
  canStore ww52 ((blk ww45.heap.size).add 6) ∧
  thenW (ww52.setCell ((blk ww45.heap.size).add 6) (.slice Body41a Body41n Body41c)) fun ww53 =>
  canStore ww53 ((blk ww45.heap.size).add 7) ∧
  thenW (ww53.setCell ((blk ww45.heap.size).add 7) (.int .u64 Sig42)) fun ww54 =>
  Calls Try.prog 16 #[.pointer new8] ww54 fun ee58 ww59 => ∃ (Writer55 : Int) (Len56 : Int) (Sum57 : Int), ee58 = .returned (.agg #[.int .i64 Writer55, .int .i64 Len56, .int .u64 Sum57]) ∧
  thenW (ww59.alloc (.cells #[.int .i64 0, .int .i64 0, .int .u64 0] 46)) fun ww60 =>
  canStore ww60 ((blk ww59.heap.size).add 0) ∧
  thenW (ww60.setCell ((blk ww59.heap.size).add 0) (.int .i64 Writer55)) fun ww61 =>
  canStore ww61 ((blk ww59.heap.size).add 1) ∧
  thenW (ww61.setCell ((blk ww59.heap.size).add 1) (.int .i64 Len56)) fun ww62 =>
  canStore ww62 ((blk ww59.heap.size).add 2) ∧
  thenW (ww62.setCell ((blk ww59.heap.size).add 2) (.int .u64 Sum57)) fun ww63 =>
  bif new9 == 0 then (
  bif issue23 == 0 then (
  bif issue43 == 0 then (
  ∃ (Prev64 : Int), ww63.cell? ((blk ww25.heap.size).add 2) = some (.int .u64 Prev64) ∧
  bif Prev64 == 0 then (
  ∃ (Prev65 : Int), ww63.cell? ((blk ww45.heap.size).add 2) = some (.int .u64 Prev65) ∧
  bif Prev65 != 0 then (
  ∃ (Len66 : Int), ww63.cell? ((blk ww59.heap.size).add 1) = some (.int .i64 Len66) ∧
  bif Len66 == 2 then (
  ∃ (Sum67 : Int), ww63.cell? ((blk ww59.heap.size).add 2) = some (.int .u64 Sum67) ∧
  ∃ (Prev68 : Int), ww63.cell? ((blk ww45.heap.size).add 2) = some (.int .u64 Prev68) ∧
  bif Sum67 != Prev68 then (
  ∃ (xWriter69 : Int) (xIndex70 : Int) (xPrev71 : Int) (xAtT72 : Int) (xAtW73 : Int) (xEpoch74 : Int) (xBody75a : Option Addr) (xBody75n : Nat) (xBody75c : Nat) (xSig76 : Int), cellsAt ww63 (blk ww25.heap.size) [.int .i64 xWriter69, .int .i64 xIndex70, .int .u64 xPrev71, .int .i64 xAtT72, .int .i64 xAtW73, .int .i64 xEpoch74, .slice xBody75a xBody75n xBody75c, .int .u64 xSig76] 0 ∧
  Calls Try.prog 26 #[.pointer new8, .agg #[.int .i64 xWriter69, .int .i64 xIndex70, .int .u64 xPrev71, .int .i64 xAtT72, .int .i64 xAtW73, .int .i64 xEpoch74, .slice xBody75a xBody75n xBody75c, .int .u64 xSig76]] ww63 fun ee78 ww79 => ∃ (check77 : Int), ee78 = .returned (.int .i64 check77) ∧
  R (.bool (check77 == 8)) ww79) else (
  R (.bool false) ww63)) else (
  R (.bool false) ww63)) else (
  R (.bool false) ww63)) else (
  R (.bool false) ww63)) else (
  R (.bool false) ww63)) else (
  R (.bool false) ww63)) else (
  R (.bool false) ww63)

theorem cachettelaw07_alive.eq  (R : Value → World → Prop) (w : World) : mfunc Try.prog [] 10 [] R w = cachettelaw07_alive.M  R w := by kernel_rfl
theorem cachettelaw07_alive.ok  {R : Value → World → Prop} {w : World} (h : cachettelaw07_alive.M  R w) : Calls Try.prog 10 #[] w fun e w' => ∃ v, e = .returned v ∧ R v w' :=
  mfunc_ok follows (H := []) (args := []) (by rw [cachettelaw07_alive.eq]; exact h)

def cachettelaw07_alive.N  (R : Value → World → Prop) (w : World) : Prop :=
  Calls Try.prog 11 #[.slice none 0 0] w fun ee2 ww3 => ∃ (new1 : Option Addr), ee2 = .returned (.pointer new1) ∧
  Calls Try.prog 12 #[.pointer new1] ww3 fun ee6 ww7 => ∃ (pair4 : Int) (pair5 : Int), ee6 = .returned (.tuple #[.int .u64 pair4, .int .u64 pair5]) ∧
  Calls Try.prog 13 #[.pointer new1, .int .i64 1, .int .u64 pair5] ww7 fun ee10 ww11 => ∃ (new8 : Option Addr) (new9 : Int), ee10 = .returned (.tuple #[.pointer new8, .int .i64 new9]) ∧
  ∀ (ww12 : World) (q13 : Nat), Ext no ww11 ww12 → Blk ww12 q13 5 [.int .u8 120] → ww11.heap.size ≤ q13 → q13 < ww12.heap.size →
  ∃ (c14a : Option Addr) (c14n : Nat) (c14c : Nat) (ww15 : World), (convert 24 24 (.slice (some (blk q13)) 1 1)).run Try.prog ww12 = .ok (.slice c14a c14n c14c) ww15 ∧
  Calls Try.prog 14 #[.pointer new8, .int .u64 pair4, .agg #[.int .i64 1, .int .i64 1], .int .i64 0, .slice c14a c14n c14c] ww15 fun ee25 ww26 => ∃ (Writer16 : Int) (Index17 : Int) (Prev18 : Int) (AtT19 : Int) (AtW20 : Int) (Epoch21 : Int) (Body22a : Option Addr) (Body22n : Nat) (Body22c : Nat) (Sig23 : Int) (issue24 : Int), ee25 = .returned (.tuple #[.agg #[.int .i64 Writer16, .int .i64 Index17, .int .u64 Prev18, .int .i64 AtT19, .int .i64 AtW20, .int .i64 Epoch21, .slice Body22a Body22n Body22c, .int .u64 Sig23], .int .i64 issue24]) ∧
  ∀ (ww35 : World) (p36 : Nat), Ext no ww26 ww35 → Priv ww26 ww35 [p36] →
  Calls Try.prog 14 #[.pointer new8, .int .u64 pair4, .agg #[.int .i64 2, .int .i64 1], .int .i64 0, .slice none 0 0] ww35 fun ee46 ww47 => ∃ (Writer37 : Int) (Index38 : Int) (Prev39 : Int) (AtT40 : Int) (AtW41 : Int) (Epoch42 : Int) (Body43a : Option Addr) (Body43n : Nat) (Body43c : Nat) (Sig44 : Int) (issue45 : Int), ee46 = .returned (.tuple #[.agg #[.int .i64 Writer37, .int .i64 Index38, .int .u64 Prev39, .int .i64 AtT40, .int .i64 AtW41, .int .i64 Epoch42, .slice Body43a Body43n Body43c, .int .u64 Sig44], .int .i64 issue45]) ∧
  Keep [p36] ww35 ww47 ∧
  ∀ (ww56 : World) (p57 : Nat), Ext no ww47 ww56 → Priv ww47 ww56 [p57] →
  Calls Try.prog 16 #[.pointer new8] ww56 fun ee61 ww62 => ∃ (Writer58 : Int) (Len59 : Int) (Sum60 : Int), ee61 = .returned (.agg #[.int .i64 Writer58, .int .i64 Len59, .int .u64 Sum60]) ∧
  Keep [p36, p57] ww56 ww62 ∧
  (new9 = 0 →
    (issue24 = 0 →
      (issue45 = 0 →
        (Prev18 = 0 →
          (Prev39 ≠ 0 →
            (Len59 = 2 →
              (Sum60 ≠ Prev39 →
                ∀ (ww66 : World), Ext no ww62 ww66 →
                Calls Try.prog 26 #[.pointer new8, .agg #[.int .i64 Writer16, .int .i64 Index17, .int .u64 Prev18, .int .i64 AtT19, .int .i64 AtW20, .int .i64 Epoch21, .slice Body22a Body22n Body22c, .int .u64 Sig23]] ww66 fun ee76 ww77 => ∃ (check75 : Int), ee76 = .returned (.int .i64 check75) ∧
                R (.bool (check75 == 8)) ww77) ∧
              (Sum60 = Prev39 →
                ∀ (ww66 : World), Ext no ww62 ww66 →
                R (.bool false) ww66)) ∧
            (Len59 ≠ 2 →
              ∀ (ww66 : World), Ext no ww62 ww66 →
              R (.bool false) ww66)) ∧
          (Prev39 = 0 →
            ∀ (ww66 : World), Ext no ww62 ww66 →
            R (.bool false) ww66)) ∧
        (Prev18 ≠ 0 →
          ∀ (ww66 : World), Ext no ww62 ww66 →
          R (.bool false) ww66)) ∧
      (issue45 ≠ 0 →
        ∀ (ww66 : World), Ext no ww62 ww66 →
        R (.bool false) ww66)) ∧
    (issue24 ≠ 0 →
      ∀ (ww66 : World), Ext no ww62 ww66 →
      R (.bool false) ww66)) ∧
  (new9 ≠ 0 →
    ∀ (ww66 : World), Ext no ww62 ww66 →
    R (.bool false) ww66)

theorem cachettelaw07_alive.up  {R : Value → World → Prop} {w : World} (h : cachettelaw07_alive.N  R w) : cachettelaw07_alive.M  R w := by
  unfold cachettelaw07_alive.M
  unfold cachettelaw07_alive.N at h
  refine h.mono fun ee2 ww3 h => ?_
  obtain ⟨new1, he, h⟩ := h
  refine ⟨new1, he, ?_⟩
  refine h.mono fun ee6 ww7 h => ?_
  obtain ⟨pair4, pair5, he, h⟩ := h
  refine ⟨pair4, pair5, he, ?_⟩
  refine h.mono fun ee10 ww11 h => ?_
  obtain ⟨new8, new9, he, h⟩ := h
  refine ⟨new8, new9, he, ?_⟩
  refine thenW_in fun ww12 e12 => ?_
  have h := h ww12 ww11.heap.size ((Ext.refl no ww11).x_alloc e12) (Blk.of_new e12) ((Ext.refl no ww11)).size (size_lt_alloc e12)
  obtain ⟨c14a, c14n, c14c, ww15, hr, h⟩ := h
  refine ⟨c14a, c14n, c14c, ww15, hr, ?_⟩
  refine h.mono fun ee25 ww26 h => ?_
  obtain ⟨Writer16, Index17, Prev18, AtT19, AtW20, Epoch21, Body22a, Body22n, Body22c, Sig23, issue24, he, h⟩ := h
  refine ⟨Writer16, Index17, Prev18, AtT19, AtW20, Epoch21, Body22a, Body22n, Body22c, Sig23, issue24, he, ?_⟩
  refine thenW_in fun ww27 e27 => ?_
  have hb1 := Blk.of_new e27
  have hg1 := ((Ext.refl no ww26)).size
  have hx27 := (Ext.refl no ww26).x_alloc e27
  refine ⟨hb1.cani 0 rfl rfl, thenW_in fun ww28 e28 => ?_⟩
  have hx28 := hx27.x_set (q := ww26.heap.size) (i := 0) rfl (.inr hg1) e28
  have hb1 : Blk ww28 ww26.heap.size 39 [.int .i64 Writer16, .int .i64 0, .int .u64 0, .int .i64 0, .int .i64 0, .int .i64 0, .slice none 0 0, .int .u64 0] := hb1.seti 0 rfl e28
  refine ⟨hb1.cani 1 rfl rfl, thenW_in fun ww29 e29 => ?_⟩
  have hx29 := hx28.x_set (q := ww26.heap.size) (i := 1) rfl (.inr hg1) e29
  have hb1 : Blk ww29 ww26.heap.size 39 [.int .i64 Writer16, .int .i64 Index17, .int .u64 0, .int .i64 0, .int .i64 0, .int .i64 0, .slice none 0 0, .int .u64 0] := hb1.seti 1 rfl e29
  refine ⟨hb1.cani 2 rfl rfl, thenW_in fun ww30 e30 => ?_⟩
  have hx30 := hx29.x_set (q := ww26.heap.size) (i := 2) rfl (.inr hg1) e30
  have hb1 : Blk ww30 ww26.heap.size 39 [.int .i64 Writer16, .int .i64 Index17, .int .u64 Prev18, .int .i64 0, .int .i64 0, .int .i64 0, .slice none 0 0, .int .u64 0] := hb1.seti 2 rfl e30
  refine ⟨hb1.cani 3 rfl rfl, thenW_in fun ww31 e31 => ?_⟩
  have hx31 := hx30.x_set (q := ww26.heap.size) (i := 3) rfl (.inr hg1) e31
  have hb1 : Blk ww31 ww26.heap.size 39 [.int .i64 Writer16, .int .i64 Index17, .int .u64 Prev18, .int .i64 AtT19, .int .i64 0, .int .i64 0, .slice none 0 0, .int .u64 0] := hb1.seti 3 rfl e31
  refine ⟨hb1.cani 4 rfl rfl, thenW_in fun ww32 e32 => ?_⟩
  have hx32 := hx31.x_set (q := ww26.heap.size) (i := 4) rfl (.inr hg1) e32
  have hb1 : Blk ww32 ww26.heap.size 39 [.int .i64 Writer16, .int .i64 Index17, .int .u64 Prev18, .int .i64 AtT19, .int .i64 AtW20, .int .i64 0, .slice none 0 0, .int .u64 0] := hb1.seti 4 rfl e32
  refine ⟨hb1.cani 5 rfl rfl, thenW_in fun ww33 e33 => ?_⟩
  have hx33 := hx32.x_set (q := ww26.heap.size) (i := 5) rfl (.inr hg1) e33
  have hb1 : Blk ww33 ww26.heap.size 39 [.int .i64 Writer16, .int .i64 Index17, .int .u64 Prev18, .int .i64 AtT19, .int .i64 AtW20, .int .i64 Epoch21, .slice none 0 0, .int .u64 0] := hb1.seti 5 rfl e33
  refine ⟨hb1.cani 6 rfl rfl, thenW_in fun ww34 e34 => ?_⟩
  have hx34 := hx33.x_set (q := ww26.heap.size) (i := 6) rfl (.inr hg1) e34
  have hb1 : Blk ww34 ww26.heap.size 39 [.int .i64 Writer16, .int .i64 Index17, .int .u64 Prev18, .int .i64 AtT19, .int .i64 AtW20, .int .i64 Epoch21, .slice Body22a Body22n Body22c, .int .u64 0] := hb1.seti 6 rfl e34
  refine ⟨hb1.cani 7 rfl rfl, thenW_in fun ww35 e35 => ?_⟩
  have hx35 := hx34.x_set (q := ww26.heap.size) (i := 7) rfl (.inr hg1) e35
  have hb1 : Blk ww35 ww26.heap.size 39 [.int .i64 Writer16, .int .i64 Index17, .int .u64 Prev18, .int .i64 AtT19, .int .i64 AtW20, .int .i64 Epoch21, .slice Body22a Body22n Body22c, .int .u64 Sig23] := hb1.seti 7 rfl e35
  have h := h ww35 (ww26.heap.size) hx35 (Priv.cons hg1 hb1.lt Priv.nil)
  refine h.mono fun ee46 ww47 h => ?_
  obtain ⟨Writer37, Index38, Prev39, AtT40, AtW41, Epoch42, Body43a, Body43n, Body43c, Sig44, issue45, he, hk, h⟩ := h
  refine ⟨Writer37, Index38, Prev39, AtT40, AtW41, Epoch42, Body43a, Body43n, Body43c, Sig44, issue45, he, ?_⟩
  have hb1 := hk.blk hb1 (by simp)
  refine thenW_in fun ww48 e48 => ?_
  have hb2 := Blk.of_new e48
  have hg2 := ((Ext.refl no ww47)).size
  have hb1_2 := Nat.ne_of_lt hb1.lt
  have hb1 := hb1.x_alloc e48
  have hx48 := (Ext.refl no ww47).x_alloc e48
  refine ⟨hb2.cani 0 rfl rfl, thenW_in fun ww49 e49 => ?_⟩
  have hx49 := hx48.x_set (q := ww47.heap.size) (i := 0) rfl (.inr hg2) e49
  have hb1 := hb1.oth (q := ww47.heap.size) (i := 0) rfl hb1_2 e49
  have hb2 : Blk ww49 ww47.heap.size 39 [.int .i64 Writer37, .int .i64 0, .int .u64 0, .int .i64 0, .int .i64 0, .int .i64 0, .slice none 0 0, .int .u64 0] := hb2.seti 0 rfl e49
  refine ⟨hb2.cani 1 rfl rfl, thenW_in fun ww50 e50 => ?_⟩
  have hx50 := hx49.x_set (q := ww47.heap.size) (i := 1) rfl (.inr hg2) e50
  have hb1 := hb1.oth (q := ww47.heap.size) (i := 1) rfl hb1_2 e50
  have hb2 : Blk ww50 ww47.heap.size 39 [.int .i64 Writer37, .int .i64 Index38, .int .u64 0, .int .i64 0, .int .i64 0, .int .i64 0, .slice none 0 0, .int .u64 0] := hb2.seti 1 rfl e50
  refine ⟨hb2.cani 2 rfl rfl, thenW_in fun ww51 e51 => ?_⟩
  have hx51 := hx50.x_set (q := ww47.heap.size) (i := 2) rfl (.inr hg2) e51
  have hb1 := hb1.oth (q := ww47.heap.size) (i := 2) rfl hb1_2 e51
  have hb2 : Blk ww51 ww47.heap.size 39 [.int .i64 Writer37, .int .i64 Index38, .int .u64 Prev39, .int .i64 0, .int .i64 0, .int .i64 0, .slice none 0 0, .int .u64 0] := hb2.seti 2 rfl e51
  refine ⟨hb2.cani 3 rfl rfl, thenW_in fun ww52 e52 => ?_⟩
  have hx52 := hx51.x_set (q := ww47.heap.size) (i := 3) rfl (.inr hg2) e52
  have hb1 := hb1.oth (q := ww47.heap.size) (i := 3) rfl hb1_2 e52
  have hb2 : Blk ww52 ww47.heap.size 39 [.int .i64 Writer37, .int .i64 Index38, .int .u64 Prev39, .int .i64 AtT40, .int .i64 0, .int .i64 0, .slice none 0 0, .int .u64 0] := hb2.seti 3 rfl e52
  refine ⟨hb2.cani 4 rfl rfl, thenW_in fun ww53 e53 => ?_⟩
  have hx53 := hx52.x_set (q := ww47.heap.size) (i := 4) rfl (.inr hg2) e53
  have hb1 := hb1.oth (q := ww47.heap.size) (i := 4) rfl hb1_2 e53
  have hb2 : Blk ww53 ww47.heap.size 39 [.int .i64 Writer37, .int .i64 Index38, .int .u64 Prev39, .int .i64 AtT40, .int .i64 AtW41, .int .i64 0, .slice none 0 0, .int .u64 0] := hb2.seti 4 rfl e53
  refine ⟨hb2.cani 5 rfl rfl, thenW_in fun ww54 e54 => ?_⟩
  have hx54 := hx53.x_set (q := ww47.heap.size) (i := 5) rfl (.inr hg2) e54
  have hb1 := hb1.oth (q := ww47.heap.size) (i := 5) rfl hb1_2 e54
  have hb2 : Blk ww54 ww47.heap.size 39 [.int .i64 Writer37, .int .i64 Index38, .int .u64 Prev39, .int .i64 AtT40, .int .i64 AtW41, .int .i64 Epoch42, .slice none 0 0, .int .u64 0] := hb2.seti 5 rfl e54
  refine ⟨hb2.cani 6 rfl rfl, thenW_in fun ww55 e55 => ?_⟩
  have hx55 := hx54.x_set (q := ww47.heap.size) (i := 6) rfl (.inr hg2) e55
  have hb1 := hb1.oth (q := ww47.heap.size) (i := 6) rfl hb1_2 e55
  have hb2 : Blk ww55 ww47.heap.size 39 [.int .i64 Writer37, .int .i64 Index38, .int .u64 Prev39, .int .i64 AtT40, .int .i64 AtW41, .int .i64 Epoch42, .slice Body43a Body43n Body43c, .int .u64 0] := hb2.seti 6 rfl e55
  refine ⟨hb2.cani 7 rfl rfl, thenW_in fun ww56 e56 => ?_⟩
  have hx56 := hx55.x_set (q := ww47.heap.size) (i := 7) rfl (.inr hg2) e56
  have hb1 := hb1.oth (q := ww47.heap.size) (i := 7) rfl hb1_2 e56
  have hb2 : Blk ww56 ww47.heap.size 39 [.int .i64 Writer37, .int .i64 Index38, .int .u64 Prev39, .int .i64 AtT40, .int .i64 AtW41, .int .i64 Epoch42, .slice Body43a Body43n Body43c, .int .u64 Sig44] := hb2.seti 7 rfl e56
  have h := h ww56 (ww47.heap.size) hx56 (Priv.cons hg2 hb2.lt Priv.nil)
  refine h.mono fun ee61 ww62 h => ?_
  obtain ⟨Writer58, Len59, Sum60, he, hk, h⟩ := h
  refine ⟨Writer58, Len59, Sum60, he, ?_⟩
  have hb1 := hk.blk hb1 (by simp)
  have hb2 := hk.blk hb2 (by simp)
  refine thenW_in fun ww63 e63 => ?_
  have hb3 := Blk.of_new e63
  have hg3 := ((Ext.refl no ww62)).size
  have hb1_3 := Nat.ne_of_lt hb1.lt
  have hb1 := hb1.x_alloc e63
  have hb2_3 := Nat.ne_of_lt hb2.lt
  have hb2 := hb2.x_alloc e63
  have hx63 := (Ext.refl no ww62).x_alloc e63
  refine ⟨hb3.cani 0 rfl rfl, thenW_in fun ww64 e64 => ?_⟩
  have hx64 := hx63.x_set (q := ww62.heap.size) (i := 0) rfl (.inr hg3) e64
  have hb1 := hb1.oth (q := ww62.heap.size) (i := 0) rfl hb1_3 e64
  have hb2 := hb2.oth (q := ww62.heap.size) (i := 0) rfl hb2_3 e64
  have hb3 := hb3.seti 0 rfl e64
  refine ⟨hb3.cani 1 rfl rfl, thenW_in fun ww65 e65 => ?_⟩
  have hx65 := hx64.x_set (q := ww62.heap.size) (i := 1) rfl (.inr hg3) e65
  have hb1 := hb1.oth (q := ww62.heap.size) (i := 1) rfl hb1_3 e65
  have hb2 := hb2.oth (q := ww62.heap.size) (i := 1) rfl hb2_3 e65
  have hb3 := hb3.seti 1 rfl e65
  refine ⟨hb3.cani 2 rfl rfl, thenW_in fun ww66 e66 => ?_⟩
  have hx66 := hx65.x_set (q := ww62.heap.size) (i := 2) rfl (.inr hg3) e66
  have hb1 := hb1.oth (q := ww62.heap.size) (i := 2) rfl hb1_3 e66
  have hb2 := hb2.oth (q := ww62.heap.size) (i := 2) rfl hb2_3 e66
  have hb3 := hb3.seti 2 rfl e66
  refine bif_of (fun c67 => ?_) (fun c67 => ?_)
  · have h := h.1 (beq_t c67)
    refine bif_of (fun c68 => ?_) (fun c68 => ?_)
    · have h := h.1 (beq_t c68)
      refine bif_of (fun c69 => ?_) (fun c69 => ?_)
      · have h := h.1 (beq_t c69)
        refine ⟨Prev18, hb1.celli 2 rfl rfl, ?_⟩
        refine bif_of (fun c70 => ?_) (fun c70 => ?_)
        · have h := h.1 (beq_t c70)
          refine ⟨Prev39, hb2.celli 2 rfl rfl, ?_⟩
          refine bif_of (fun c71 => ?_) (fun c71 => ?_)
          · have h := h.1 (bne_t c71)
            refine ⟨Len59, hb3.celli 1 rfl rfl, ?_⟩
            refine bif_of (fun c72 => ?_) (fun c72 => ?_)
            · have h := h.1 (beq_t c72)
              refine ⟨Sum60, hb3.celli 2 rfl rfl, ?_⟩
              refine ⟨Prev39, hb2.celli 2 rfl rfl, ?_⟩
              refine bif_of (fun c73 => ?_) (fun c73 => ?_)
              · have h := h.1 (bne_t c73)
                refine ⟨Writer16, Index17, Prev18, AtT19, AtW20, Epoch21, Body22a, Body22n, Body22c, Sig23, ⟨hb1.celli 0 rfl rfl, hb1.celli 1 rfl rfl, hb1.celli 2 rfl rfl, hb1.celli 3 rfl rfl, hb1.celli 4 rfl rfl, hb1.celli 5 rfl rfl, hb1.celli 6 rfl rfl, hb1.celli 7 rfl rfl, trivial⟩, ?_⟩
                have h := h ww66 hx66
                refine h.mono fun ee76 ww77 h => ?_
                obtain ⟨check75, he, h⟩ := h
                refine ⟨check75, he, ?_⟩
                exact h
              · have h := h.2 (bne_f c73)
                have h := h ww66 hx66
                exact h
            · have h := h.2 (beq_f c72)
              have h := h ww66 hx66
              exact h
          · have h := h.2 (bne_f c71)
            have h := h ww66 hx66
            exact h
        · have h := h.2 (beq_f c70)
          have h := h ww66 hx66
          exact h
      · have h := h.2 (beq_f c69)
        have h := h ww66 hx66
        exact h
    · have h := h.2 (beq_f c68)
      have h := h ww66 hx66
      exact h
  · have h := h.2 (beq_f c67)
    have h := h ww66 hx66
    exact h

theorem cachettelaw07_alive.go  {R : Value → World → Prop} {w : World} (h : cachettelaw07_alive.N  R w) : Calls Try.prog 10 #[] w fun e w' => ∃ v, e = .returned v ∧ R v w' := cachettelaw07_alive.ok  (cachettelaw07_alive.up  h)
theorem cachettelaw07_alive.run  {V : Value} {Q : World → Prop} {w : World} (h : cachettelaw07_alive.N  (fun v w' => v = V ∧ Q w') w) : Calls Try.prog 10 #[] w (Ret V Q) := (cachettelaw07_alive.go  h).mono fun e w' ⟨v, he, hv, hq⟩ => ⟨by rw [he, hv], hq⟩

/-- a step that is handed in. -/
structure CO where
  kd : Int
  t : Int
  ep : Int
  a : Option Addr
  c : Nat
  B : List UInt8
  n : Int
  fd : Int
  E : PE
def CO.C (p : CO) : List Value := [.int .i64 p.kd, .int .i64 p.t, .int .i64 p.ep, .slice p.a p.B.length p.c, .int .i64 p.n, .int .i64 p.fd] ++ p.E.C
theorem CO.len (p : CO) : p.C.length = 14 := rfl
structure CO.good (W : World) (p : CO) : Prop where
  t : -9223372036854775808 ≤ p.t ∧ p.t < 9223372036854775808
  ep : -9223372036854775808 ≤ p.ep ∧ p.ep < 9223372036854775808
  n : -9223372036854775808 ≤ p.n ∧ p.n < 9223372036854775808
  la : p.B.length ≤ p.c
  ra : RowAt W p.a (bytesV p.B)
  e : RowAt W p.E.a (bytesV p.E.e.body) ∧ p.E.e.body.length ≤ p.E.c ∧ p.E.e.fit ∧ p.E.e.wide
theorem opens_co : Opens Try.prog 43 fun W cs => ∃ p : CO, cs = p.C ∧ p.good W :=
  (opens_seq (qs := [(1, _), (1, _), (1, _), (1, _), (1, _), (1, _), (8, _)]) (size := 14) Try.underlying43 (by kernel_rfl)
    ⟨⟨rfl, by kernel_rfl, opens_int Try.underlying3⟩, ⟨rfl, by kernel_rfl, opens_int Try.underlying2⟩, ⟨rfl, by kernel_rfl, opens_int Try.underlying3⟩,
     ⟨rfl, by kernel_rfl, opens_bytes Try.underlying24 (by kernel_rfl) Try.underlying5⟩, ⟨rfl, by kernel_rfl, opens_int Try.underlying3⟩, ⟨rfl, by kernel_rfl, opens_int Try.underlying3⟩, ⟨rfl, by kernel_rfl, opens_entry⟩, rfl⟩).mono
    fun W cs ⟨_, _, e0, _, ⟨kd, q0, _⟩, _, _, e1, _, ⟨t, q1, ft⟩, _, _, e2, _, ⟨ep, q2, fe⟩, _, _, e3, _, ⟨aa, ac, A, q3, la, _, ra⟩, _, _, e4, _, ⟨n, q4, fn⟩, _, _, e5, _, ⟨fd, q5, _⟩, _, _, e6, _, ⟨e, ea, ec, q6, f1, f2, f3, _, f5⟩, q7⟩ => by
      subst q0; subst q1; subst q2; subst q3; subst q4; subst q5; subst q6; subst q7; subst e6; subst e5; subst e4; subst e3; subst e2; subst e1; subst e0
      exact ⟨⟨kd, t, ep, aa, ac, A, n, fd, ⟨e, ea, ec⟩⟩, rfl, wf_i64 ft, wf_i64 fe, wf_i64 fn, la, ra, f5, f3, f1, f2⟩
def COsQ (W : World) (cs : List Value) : Prop := ∃ (a : Option Addr) (c : Nat) (l : List CO), cs = [.slice a l.length c] ∧ l.length ≤ c ∧ c ≤ maxLen ∧ RowAt W a (l.flatMap CO.C) ∧ ∀ x ∈ l, x.good W
theorem opens_cos : Opens Try.prog 22 COsQ := opens_rows (size := 14) Try.underlying22 (by kernel_rfl) opens_co
def lightC (dn : Nat) (l : List CO) : Bool := decide (dn ≤ 50) && decide (l.length ≤ 40) && l.all fun p => decide (p.B.length ≤ 1200) && decide (p.E.e.body.length ≤ 1200)
section
variable {w W : World} {da la : Option Addr} {dn dc lc : Nat} {d : List Int} {l : List CO}
theorem light_spec (hl : RowAt w la (l.flatMap CO.C)) : Calls Try.prog 9 #[.slice da dn dc, .slice la l.length lc] w (Ret (.bool (lightC dn l)) fun w' => w' = w) := by
  refine cachettelaw07_light.run _ _ _ _ _ _ ?_
  unfold cachettelaw07_light.N
  refine ⟨fun h => ⟨by unfold lightC; rw [show decide (dn ≤ 50) = false by simp; omega]; rfl, rfl⟩, fun h1 => ⟨fun h => ⟨by unfold lightC; rw [show decide (l.length ≤ 40) = false by simp; omega]; simp, rfl⟩, fun h2 => ?_⟩⟩
  refine ⟨fun q vs w1 => ∃ t : Nat, vs = [.int .i64 t] ∧ q + t = l.length ∧ w1 = w ∧ (l.take t).all (fun p => decide (p.B.length ≤ 1200) && decide (p.E.e.body.length ≤ 1200)) = true, l.length, ⟨0, rfl, rfl, rfl, rfl⟩, ?_⟩
  rintro q w1 i ⟨t, hi, hq, rfl, hn⟩
  simp only [List.cons.injEq, Value.int.injEq, true_and, and_true] at hi
  subst hi
  refine ⟨fun ht => ?_, fun ht => ?_⟩
  · have htl : t < l.length := by omega
    have hg : l[t]? = some l[t] := List.getElem?_eq_getElem htl
    obtain ⟨ad, rfl⟩ := hl.faddr CO.len (by decide) htl
    have no : ¬ (l[t].B.length ≤ 1200 ∧ l[t].E.e.body.length ≤ 1200) → lightC dn l = false := fun h => by
      unfold lightC
      rw [show (l.all fun p => decide (p.B.length ≤ 1200) && decide (p.E.e.body.length ≤ 1200)) = false by rw [List.all_eq_false]; exact ⟨l[t], List.getElem_mem htl, by simpa using h⟩]; simp
    refine ⟨ad, rfl, by omega, by omega, _, _, _, by rw [Int.toNat_natCast]; exact hl.fcell CO.len hg 3 rfl, fun hA => ⟨by rw [no (by omega)], rfl⟩, fun hA => ⟨by omega, by omega, _, _, _, by rw [Int.toNat_natCast, add_add]; exact hl.fcell CO.len hg 12 rfl, fun hB => ⟨by rw [no (by omega)], rfl⟩, fun hB => ⟨by omega, by omega, q - 1, by omega, t + 1, rfl, by omega, rfl, ?_⟩⟩⟩
    rw [List.take_add_one, hg, List.all_append, hn]
    simp; omega
  · obtain rfl : t = l.length := by omega
    rw [List.take_length] at hn
    refine ⟨?_, rfl⟩
    unfold lightC
    rw [hn, decide_eq_true (show dn ≤ 50 by omega), decide_eq_true (show l.length ≤ 40 by omega)]
    rfl
theorem light_of (h : lightC dn l = true) : dn ≤ 50 ∧ l.length ≤ 40 ∧ ∀ p ∈ l, p.B.length ≤ 1200 ∧ p.E.e.body.length ≤ 1200 := by
  unfold lightC at h
  simp only [Bool.and_eq_true, decide_eq_true_eq, List.all_eq_true] at h
  exact ⟨h.1.1, h.1.2, h.2⟩
end
end Go.Proofs.Ytnppbflccbpoeaa

/- Chain: the chapter's example; a log that is none. -/
set_option linter.unusedVariables false
set_option linter.unusedSimpArgs false
set_option maxRecDepth 20000
set_option maxHeartbeats 2000000
namespace Go.Proofs.Ytnppbflccbpoeaa
open Go Go.Mx Go.Proofs
open W (OwnB GivesW numR countR doneR zig unzig intR)
theorem ex7_fact : ∃ S1 S2 S3 : OS, ∃ L1 L2 : CL, ∃ x y : Ent, pairOf (OS.init []) = ((1, 2), S1) ∧ issueC S1 ⟨1, 2, [], 0⟩ 1 1 1 0 [120] = ((x, 0), L1, S2) ∧ issueC S2 L1 1 2 1 0 [] = ((y, 0), L2, S3) ∧
    x.pv = 0 ∧ y.pv ≠ 0 ∧ L2.es.length = 2 ∧ L2.sum ≠ y.pv ∧ checkC S3 L2 x = 8 :=
  ⟨_, _, _, _, _, ⟨1, 0, 0, 1, 1, 0, [120], 3⟩, ⟨1, 1, 4, 2, 1, 0, [], 5⟩, rfl, rfl, rfl, rfl, by decide, rfl, by decide, rfl⟩
theorem alive7_spec (w : World) : Calls Try.prog 10 #[] w (Ret (.bool true) fun w' => Ext no w w') := by
  refine cachettelaw07_alive.run ?_
  unfold cachettelaw07_alive.N
  obtain ⟨S1, S2, S3, L1, L2, x, y, f1, f2, f3, f4, f5, f6, f7, f8⟩ := ex7_fact
  have ok0 : Tags w (fun _ => none) := fun b j _ h => by cases h
  refine (NewO (l := []) (c := 0) ok0 (RowAt.nil _ _) (by simp)).mono fun v w3 ⟨k, o3, hx, hk, s3, P3⟩ => ⟨_, hx, ?_⟩
  have i0 : OInv (OS.init []) := OInv.init (by simp)
  have nk : ∀ {w1 w2 : World} {o1 o2 : Own}, Step no w (fun _ => none) w1 o1 → Step (fun i => i = k) w1 o1 w2 o2 → Step no w (fun _ => none) w2 o2 := fun h1 h2 => h1.trans' h2 fun i hi => .inr (by omega)
  refine (PairO P3 s3.ok i0.ok (by decide)).mono fun v w7 ⟨o7, hx, s7', P7⟩ => ⟨_, _, hx, ?_⟩
  obtain ⟨i1, _, kp, ks, _⟩ := pair_inv i0
  have u1 := (pairOf_ok i0.ok).2
  rw [f1] at P7 i1 u1 kp ks ⊢
  dsimp only at u1 i1 kp ks P7
  have u0 : (OS.init []).used.length = 0 := rfl
  have hk1 : Keyed S1 1 2 := ⟨ks, kp⟩
  have s7 := nk s3 s7'
  refine (cNew_spec (k := k) s7.ok 1 2).mono fun v w11 h => ?_
  rcases h with ⟨h, _⟩ | ⟨_, q, o11, hx, hq, s11', PL⟩
  · exact absurd ⟨by decide, by decide⟩ h
  refine ⟨_, _, hx, ?_⟩
  have s11 := s7.trans s11'
  have l11 := PL.lt
  have hkl := P7.lt
  have hqk : q ≠ k := by omega
  have nkq : ∀ {w1 w2 : World} {o1 o2 : Own}, Step no w (fun _ => none) w1 o1 → Step (fun i => i = q ∨ i = k) w1 o1 w2 o2 → Step no w (fun _ => none) w2 o2 := fun h1 h2 => h1.trans' h2 fun i hi => .inr (by have := s7.size; omega)
  intro w12 q13 X12 hb12 hq12 hq12'
  obtain ⟨w15, hc15, hr15, X15⟩ := litB Try.underlying24 Try.underlying5 [120] X12 hb12 hq12
  refine ⟨_, _, _, w15, hc15, ?_⟩
  have s15' := Step.of_no X15 s11.ok
  have s15 := s11.trans s15'
  have rA : Row w15 (grow w11 o11) (some (blk q13)) (bytesV [120]) := Row.fresh hr15 fun ad ha => by cases ha; exact hq12
  have L0 : LOk S1 1 2 ⟨1, 2, [], 0⟩ := LOk.nil 1
  have n1 : S1.used.length + 1 < 1000000 := by omega
  have hi := L0.issue i1 hk1 (by omega) 1 1 0 [120]
  refine (cIssue_spec (PL.step s15' id) ((P7.step s11' id).step s15' id) s15.ok hqk i1.ok n1 ⟨by decide, by decide⟩ 1 1 1 0 (issue_sg i1 (by omega) _ hk1) rA).mono fun v w26 ⟨o26, xa, xc, hx, s26', PL26, P26, rx, lx⟩ => ⟨_, _, _, _, _, _, _, _, _, _, _, hx, ?_⟩
  rw [f2] at PL26 P26 rx lx hi ⊢
  obtain ⟨LO1, i2, le1, u2, _, _, _, _, xf⟩ := hi
  dsimp only at LO1 i2 le1 u2 PL26 P26
  have hk2 := hk1.le le1
  have s26 := nkq s15 s26'
  intro w35 p36 X35 hp36
  have g36 := hp36 p36 (by simp)
  have s35' := Step.of_no X35 s26.ok
  have F35 : Free [p36] w35 (grow w26 o26) := Free.of hp36
  have s35 := s26.trans s35'
  have n2 : S2.used.length + 1 < 1000000 := by omega
  have hi := LO1.issue i2 hk2 (by omega) 2 1 0 []
  refine (cIssue_spec (a := none) (c := 0) (PL26.step s35' id) (P26.step s35' id) s35.ok hqk i2.ok n2 (LO1.fit i2 (by omega)) 1 2 1 0 (issue_sg i2 (by omega) _ hk2) (body := []) (Row.nil _ _ _)).mono fun v w47 ⟨o47, ya, yc, hx, s47', PL47, P47, ry, ly⟩ => ⟨_, _, _, _, _, _, _, _, _, _, _, hx, F35.keep s47', fun w56 p57 X56 hp57 => ?_⟩
  rw [f3] at PL47 P47 ry ly hi ⊢
  have s47 := nkq s35 s47'
  have F47 := F35.step s47'
  have s56' := Step.of_no X56 s47.ok
  have s56 := s47.trans s56'
  have F56 : Free [p36, p57] w56 (grow w47 o47) := (F47.step s56').app (M := [p57]) (Free.of hp57)
  refine (cHead_spec (PL47.step s56' id)).mono fun v w62 ⟨hx, X62⟩ => ⟨_, _, _, hx, X62.kept, fun _ => ⟨fun _ => ⟨fun _ => ⟨fun _ => ⟨fun _ => ⟨fun _ => ⟨fun _ w66 X66 => ?_, fun h => absurd h f7⟩, fun h => absurd (by rw [f6]; rfl) h⟩, fun h => absurd h f5⟩, fun h => absurd f4 h⟩, fun h => absurd rfl h⟩, fun h => absurd rfl h⟩, fun h => absurd rfl h⟩
  have s66 := (Step.of_no X62 s56.ok).trans (Step.of_no X66 (Step.of_no X62 s56.ok).ok)
  have s66a := s56'.trans s66
  refine (cCheck_spec (e := x) ((PL47.step s56' id).step s66 id) ((P47.step s56' id).step s66 id) s66.ok (fun _ => xf) ((rx.step s35').step s47' |>.step s66a).1).mono fun v w77 ⟨hx, X77⟩ => ⟨_, hx, ?_, ?_⟩
  · rw [f8]; rfl
  · exact (s47.ext.mono fun b ⟨_, h, _⟩ _ => by cases h).trans ((X56.trans (X62.trans X66)).trans X77)
end Go.Proofs.Ytnppbflccbpoeaa

/- Logs that a law issues, and the list that it keeps of them. -/
set_option linter.unusedVariables false
set_option linter.unusedSimpArgs false
set_option maxRecDepth 20000
set_option maxHeartbeats 2000000
namespace Go.Proofs.Ytnppbflccbpoeaa
open Go Go.Mx Go.Proofs
open W (OwnB GivesW numR countR doneR zig unzig intR)
/-- an oracle and a log of it. -/
structure OneI (w : World) (o : Own) (q k : Nat) (s p : Int) (S : OS) (L : CL) (n : Nat) : Prop where
  log : PLog w o q k L
  orc : POrc w o k S
  ok : Tags w o
  inv : OInv S
  key : Keyed S s p
  lok : LOk S s p L
  len : S.used.length ≤ n
  ne : q ≠ k
/-- a list of entries that a law keeps. -/
structure Kept (N : Nat) (w : World) (o : Own) (a : Option Addr) (c : Nat) (l : List PE) : Prop where
  row : LRow 39 8 N w o a l.length c (PE.Cs l)
  oks : ∀ x ∈ l, x.ok w o
section
variable {w w' w1 W0 : World} {o o' o1 : Own} {q k n N : Nat} {K : Nat → Prop} {s p : Int} {S : OS} {L : CL} {e : Ent} {a : Option Addr} {c : Nat} {l : List PE}
theorem OneI.step (h : OneI w o q k s p S L n) (t : Step K w o w' o') (hq : ¬ K q) (hk : ¬ K k) : OneI w' o' q k s p S L n :=
  ⟨h.log.step t hq, h.orc.step t hk, t.ok, h.inv, h.key, h.lok, h.len, h.ne⟩
theorem OneI.mono (h : OneI w o q k s p S L n) {m : Nat} (hm : n ≤ m) : OneI w o q k s p S L m := ⟨h.log, h.orc, h.ok, h.inv, h.key, h.lok, Nat.le_trans h.len hm, h.ne⟩
theorem Kept.step (h : Kept N w o a c l) (t : Step K w o w' o') (hk : ∀ k, K k → k < N ∨ w.heap.size ≤ k) : Kept N w' o' a c l := ⟨h.row.step t hk, fun x hx => (h.oks x hx).step t⟩
theorem Kept.nil (N : Nat) (w : World) (o : Own) : Kept N w o none 0 [] := ⟨LRow.nil _ _ _ _ _, fun x h => by cases h⟩
/-- one more. -/
theorem Kept.push (h : Kept N w o a c l) (ok : Tags w o) (hl : l.length < 1000000) {x : PE} (hx : x.ok w o) {ww : World} {qq : Nat} (X : Ext no w ww) (hb : Blk ww qq 39 [.int .i64 x.e.w, .int .i64 x.e.i, .int .u64 x.e.pv, .int .i64 x.e.t, .int .i64 x.e.tw, .int .i64 x.e.ep, .slice x.a x.e.body.length x.c, .int .u64 x.e.sg]) (h1 : w.heap.size ≤ qq) (h2 : qq < ww.heap.size) (hN : N ≤ w.heap.size) :
    ∃ a' c' w' o', (Builtin.append_ #[49, 49] 49 #[.slice a l.length c, .slice (some (blk qq)) 1 1]).run Try.prog ww = .ok (.slice a' (l ++ [x]).length c') w' ∧ Step (fun j => N ≤ j) w o w' o' ∧ Ext (fun b => ∃ ad, a = some ad ∧ b = ad.block) ww w' ∧ Kept N w' o' a' c' (l ++ [x]) := by
  have s1 := Step.of_no X ok
  have hr := h.row.step s1 fun k h => h.elim
  obtain ⟨i, hi, hz, hsz, hby⟩ := info_of inf39
  have hnews : RowAt ww (some (blk qq)) (PE.C x) := RowAt.of_blk hb
  obtain ⟨a', c', w', o', hrun, s2, hrow, hX⟩ := hr.push (ty := 49) Try.underlying49 hi hz hsz hby rfl (by decide) s1.ok (p := qq) (by omega) h2 (xa := some (blk qq)) (m := 1) (xc := 1) (news := PE.C x) rfl hnews (PE.one _) (by omega) (by omega)
  refine ⟨a', c', w', o', by rw [List.length_append]; exact hrun, s1.none.trans s2, hX, ⟨?_, fun y hy => ?_⟩⟩
  · have : PE.Cs (l ++ [x]) = PE.Cs l ++ PE.C x := by simp [PE.Cs]
    rw [List.length_append, this]; exact hrow
  · rcases List.mem_append.1 hy with hy | hy
    · exact ((h.oks y hy).step s1).step s2
    · simp at hy; subst hy; exact (hx.step s1).step s2
/-- an entry is issued. -/
theorem OneI.issue (h : OneI w o q k s p S L n) (hn : n + 2 < 1000000) (t tw ep : Int) {body : List UInt8} (hb : Row w o a (bytesV body)) :
    Calls Try.prog 14 #[.pointer (some (blk q)), .int .u64 s, .agg #[.int .i64 t, .int .i64 tw], .int .i64 ep, .slice a body.length c] w (fun x w' => ∃ (o' : Own) (S' : OS) (L' : CL) (e' : PE) (cd : Int), x = .returned (.tuple #[entV e'.e e'.a e'.c, .int .i64 cd]) ∧ Step (fun i => i = q ∨ i = k) w o w' o' ∧
      OneI w' o' q k s p S' L' (n + 2) ∧ e'.ok w' o' ∧ e'.e.body.length ≤ 1100 ∧ L'.wr = L.wr ∧ L'.es = (if cd = 0 then L.es ++ [e'.e] else L.es) ∧ (cd = 0 → OkAt S' L.wr s L.es e'.e) ∧ OS.le S S' ∧ issueC S L s t tw ep body = ((e'.e, cd), L', S')) := by
  have hu := h.len
  refine (cIssue_spec h.log h.orc h.ok h.ne h.inv.ok (by omega) (h.lok.fit h.inv (by omega)) s t tw ep (issue_sg h.inv (by omega) _ h.key) hb).mono fun x w' ⟨o', a', c', he, st, pl, po, r, lc⟩ => ?_
  obtain ⟨b1, b2, b3, b4, b5, b6, b7, b8, b9⟩ := h.lok.issue h.inv h.key (by omega) t tw ep body
  exact ⟨o', _, _, ⟨_, a', c'⟩, _, he, st, ⟨pl, po, st.ok, b2, h.key.le b3, b1, by omega, h.ne⟩, ⟨r, lc, b9⟩, b8, b5, b6, fun h => (b7 h).1, b3, rfl⟩
end
end Go.Proofs.Ytnppbflccbpoeaa

/- ChainAts. -/
set_option linter.unusedVariables false
set_option linter.unusedSimpArgs false
set_option maxRecDepth 20000
set_option maxHeartbeats 2000000
namespace Go.Proofs.Ytnppbflccbpoeaa
open Go Go.Mx Go.Proofs
open W (OwnB GivesW numR countR doneR zig unzig intR)
section
variable {w : World}
end
end Go.Proofs.Ytnppbflccbpoeaa
