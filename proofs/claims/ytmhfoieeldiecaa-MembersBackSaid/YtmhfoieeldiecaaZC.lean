/- Members: predicates. -/
import Derived.Test.YtmhfoieeldiecaaZA
import Derived.Test.YtmhfoieeldiecaaZB
set_option linter.unusedVariables false
set_option linter.unusedSimpArgs false
set_option maxRecDepth 20000
set_option maxHeartbeats 2000000
namespace Go.Proofs.Ytmhfoieeldiecaa
open Go Go.Mx Go.Proofs
open W (OwnB)
/-- cmp.isNaN[int] -/
def cmp_isNaN_int.M (x1 : Int) (R : Value → World → Prop) (w : World) : Prop :=
  R (.bool (x1 != x1)) w

theorem cmp_isNaN_int.eq (x1 : Int) (R : Value → World → Prop) (w : World) : mfunc Try.prog [] 76 [.int .i64 x1] R w = cmp_isNaN_int.M x1 R w := by kernel_rfl
theorem cmp_isNaN_int.ok (x1 : Int) {R : Value → World → Prop} {w : World} (h : cmp_isNaN_int.M x1 R w) : Calls Try.prog 76 #[.int .i64 x1] w fun e w' => ∃ v, e = .returned v ∧ R v w' :=
  mfunc_ok follows (H := []) (args := [.int .i64 x1]) (by rw [cmp_isNaN_int.eq]; exact h)

def cmp_isNaN_int.N (x1 : Int) (R : Value → World → Prop) (w : World) : Prop :=
  R (.bool (x1 != x1)) w

theorem cmp_isNaN_int.up (x1 : Int) {R : Value → World → Prop} {w : World} (h : cmp_isNaN_int.N x1 R w) : cmp_isNaN_int.M x1 R w := by
  unfold cmp_isNaN_int.M
  unfold cmp_isNaN_int.N at h
  exact h

theorem cmp_isNaN_int.go (x1 : Int) {R : Value → World → Prop} {w : World} (h : cmp_isNaN_int.N x1 R w) : Calls Try.prog 76 #[.int .i64 x1] w fun e w' => ∃ v, e = .returned v ∧ R v w' := cmp_isNaN_int.ok x1 (cmp_isNaN_int.up x1 h)
theorem cmp_isNaN_int.run (x1 : Int) {V : Value} {Q : World → Prop} {w : World} (h : cmp_isNaN_int.N x1 (fun v w' => v = V ∧ Q w') w) : Calls Try.prog 76 #[.int .i64 x1] w (Ret V Q) := (cmp_isNaN_int.go x1 h).mono fun e w' ⟨v, he, hv, hq⟩ => ⟨by rw [he, hv], hq⟩

def cmp_isNaN_int.F (x1 : Int) : Bool :=
  (x1 != x1)
theorem cmp_isNaN_int.pure (x1 : Int) {w : World} : Calls Try.prog 76 #[.int .i64 x1] w (Ret (.bool (cmp_isNaN_int.F x1)) fun w' => Ext no w w') := by
  refine cmp_isNaN_int.run x1 ?_
  unfold cmp_isNaN_int.N
  exact ⟨by unfold cmp_isNaN_int.F; rfl, Ext.refl _ _⟩

/-- cmp.Compare[int] -/
def cmp_Compare_int.M (x1 : Int) (y2 : Int) (R : Value → World → Prop) (w : World) : Prop :=
  Calls Try.prog 76 #[.int .i64 x1] w fun ee4 ww5 => ∃ (isnan3 : Bool), ee4 = .returned (.bool isnan3) ∧
  Calls Try.prog 76 #[.int .i64 y2] ww5 fun ee7 ww8 => ∃ (isnan6 : Bool), ee7 = .returned (.bool isnan6) ∧
  bif isnan3 then (
  bif isnan6 then (
  R (.int .i64 0) ww8) else (
  R (.int .i64 (-1)) ww8)) else (
  bif isnan6 then (
  R (.int .i64 1) ww8) else (
  bif decide (x1 < y2) then (
  R (.int .i64 (-1)) ww8) else (
  bif decide (x1 > y2) then (
  R (.int .i64 1) ww8) else (
  R (.int .i64 0) ww8))))

theorem cmp_Compare_int.eq (x1 : Int) (y2 : Int) (R : Value → World → Prop) (w : World) : mfunc Try.prog [] 63 [.int .i64 x1, .int .i64 y2] R w = cmp_Compare_int.M x1 y2 R w := by kernel_rfl
theorem cmp_Compare_int.ok (x1 : Int) (y2 : Int) {R : Value → World → Prop} {w : World} (h : cmp_Compare_int.M x1 y2 R w) : Calls Try.prog 63 #[.int .i64 x1, .int .i64 y2] w fun e w' => ∃ v, e = .returned v ∧ R v w' :=
  mfunc_ok follows (H := []) (args := [.int .i64 x1, .int .i64 y2]) (by rw [cmp_Compare_int.eq]; exact h)

def cmp_Compare_int.N (x1 : Int) (y2 : Int) (R : Value → World → Prop) (w : World) : Prop :=
  ((cmp_isNaN_int.F x1) = true →
    ((cmp_isNaN_int.F y2) = true →
      ∀ (ww4 : World), Ext no w ww4 →
      R (.int .i64 0) ww4) ∧
    ((cmp_isNaN_int.F y2) = false →
      ∀ (ww4 : World), Ext no w ww4 →
      R (.int .i64 (-1)) ww4)) ∧
  ((cmp_isNaN_int.F x1) = false →
    ((cmp_isNaN_int.F y2) = true →
      ∀ (ww4 : World), Ext no w ww4 →
      R (.int .i64 1) ww4) ∧
    ((cmp_isNaN_int.F y2) = false →
      (x1 < y2 →
        ∀ (ww4 : World), Ext no w ww4 →
        R (.int .i64 (-1)) ww4) ∧
      (y2 ≤ x1 →
        (x1 > y2 →
          ∀ (ww4 : World), Ext no w ww4 →
          R (.int .i64 1) ww4) ∧
        (x1 ≤ y2 →
          ∀ (ww4 : World), Ext no w ww4 →
          R (.int .i64 0) ww4))))

theorem cmp_Compare_int.up (x1 : Int) (y2 : Int) {R : Value → World → Prop} {w : World} (h : cmp_Compare_int.N x1 y2 R w) : cmp_Compare_int.M x1 y2 R w := by
  unfold cmp_Compare_int.M
  unfold cmp_Compare_int.N at h
  refine (cmp_isNaN_int.pure x1).mono fun ee ww3 ⟨he, hxx⟩ => ⟨(cmp_isNaN_int.F x1), he, ?_⟩
  have hx3 := (Ext.refl no w).trans hxx
  refine (cmp_isNaN_int.pure y2).mono fun ee ww4 ⟨he, hxx⟩ => ⟨(cmp_isNaN_int.F y2), he, ?_⟩
  have hx4 := hx3.trans hxx
  refine bif_of (fun c5 => ?_) (fun c5 => ?_)
  · have h := h.1 c5
    refine bif_of (fun c6 => ?_) (fun c6 => ?_)
    · have h := h.1 c6
      have h := h ww4 hx4
      exact h
    · have h := h.2 c6
      have h := h ww4 hx4
      exact h
  · have h := h.2 c5
    refine bif_of (fun c7 => ?_) (fun c7 => ?_)
    · have h := h.1 c7
      have h := h ww4 hx4
      exact h
    · have h := h.2 c7
      refine bif_of (fun c8 => ?_) (fun c8 => ?_)
      · have h := h.1 (of_decide_eq_true c8)
        have h := h ww4 hx4
        exact h
      · have h := h.2 (Int.not_lt.1 (of_decide_eq_false c8))
        refine bif_of (fun c9 => ?_) (fun c9 => ?_)
        · have h := h.1 (of_decide_eq_true c9)
          have h := h ww4 hx4
          exact h
        · have h := h.2 (Int.not_lt.1 (of_decide_eq_false c9))
          have h := h ww4 hx4
          exact h

theorem cmp_Compare_int.go (x1 : Int) (y2 : Int) {R : Value → World → Prop} {w : World} (h : cmp_Compare_int.N x1 y2 R w) : Calls Try.prog 63 #[.int .i64 x1, .int .i64 y2] w fun e w' => ∃ v, e = .returned v ∧ R v w' := cmp_Compare_int.ok x1 y2 (cmp_Compare_int.up x1 y2 h)
theorem cmp_Compare_int.run (x1 : Int) (y2 : Int) {V : Value} {Q : World → Prop} {w : World} (h : cmp_Compare_int.N x1 y2 (fun v w' => v = V ∧ Q w') w) : Calls Try.prog 63 #[.int .i64 x1, .int .i64 y2] w (Ret V Q) := (cmp_Compare_int.go x1 y2 h).mono fun e w' ⟨v, he, hv, hq⟩ => ⟨by rw [he, hv], hq⟩

def cmp_Compare_int.F (x1 : Int) (y2 : Int) : Int :=
  if (cmp_isNaN_int.F x1) = true then
    if (cmp_isNaN_int.F y2) = true then
      0
    else
      (-1)
  else
    if (cmp_isNaN_int.F y2) = true then
      1
    else
      if x1 < y2 then
        (-1)
      else
        if x1 > y2 then
          1
        else
          0
theorem cmp_Compare_int.pure (x1 : Int) (y2 : Int) {w : World} : Calls Try.prog 63 #[.int .i64 x1, .int .i64 y2] w (Ret (.int .i64 (cmp_Compare_int.F x1 y2)) fun w' => Ext no w w') := by
  refine cmp_Compare_int.run x1 y2 ?_
  unfold cmp_Compare_int.N
  refine ⟨fun c0 => ?_, fun c0 => ?_⟩
  · refine ⟨fun c1 => ?_, fun c1 => ?_⟩
    · intro w' hx; exact ⟨by unfold cmp_Compare_int.F; rw [if_pos c0, if_pos c1], hx⟩
    · intro w' hx; exact ⟨by unfold cmp_Compare_int.F; rw [if_pos c0, if_neg (by rw [c1]; decide)], hx⟩
  · refine ⟨fun c1 => ?_, fun c1 => ?_⟩
    · intro w' hx; exact ⟨by unfold cmp_Compare_int.F; rw [if_neg (by rw [c0]; decide), if_pos c1], hx⟩
    · refine ⟨fun c2 => ?_, fun c2 => ?_⟩
      · intro w' hx; exact ⟨by unfold cmp_Compare_int.F; rw [if_neg (by rw [c0]; decide), if_neg (by rw [c1]; decide), if_pos c2], hx⟩
      · refine ⟨fun c3 => ?_, fun c3 => ?_⟩
        · intro w' hx; exact ⟨by unfold cmp_Compare_int.F; rw [if_neg (by rw [c0]; decide), if_neg (by rw [c1]; decide), if_neg (by omega), if_pos c3], hx⟩
        · intro w' hx; exact ⟨by unfold cmp_Compare_int.F; rw [if_neg (by rw [c0]; decide), if_neg (by rw [c1]; decide), if_neg (by omega), if_neg (by omega)], hx⟩

/-- members.someone -/
def members_someone.M (wv1 : Int) (R : Value → World → Prop) (w : World) : Prop :=
  bif decide (wv1 ≥ 0) then (
  R (.bool (decide (wv1 < 8))) w) else (
  R (.bool false) w)

theorem members_someone.eq (wv1 : Int) (R : Value → World → Prop) (w : World) : mfunc Try.prog [] 54 [.int .i64 wv1] R w = members_someone.M wv1 R w := by kernel_rfl
theorem members_someone.ok (wv1 : Int) {R : Value → World → Prop} {w : World} (h : members_someone.M wv1 R w) : Calls Try.prog 54 #[.int .i64 wv1] w fun e w' => ∃ v, e = .returned v ∧ R v w' :=
  mfunc_ok follows (H := []) (args := [.int .i64 wv1]) (by rw [members_someone.eq]; exact h)

def members_someone.N (wv1 : Int) (R : Value → World → Prop) (w : World) : Prop :=
  (wv1 ≥ 0 →
    R (.bool (decide (wv1 < 8))) w) ∧
  (wv1 < 0 →
    R (.bool false) w)

theorem members_someone.up (wv1 : Int) {R : Value → World → Prop} {w : World} (h : members_someone.N wv1 R w) : members_someone.M wv1 R w := by
  unfold members_someone.M
  unfold members_someone.N at h
  refine bif_of (fun c2 => ?_) (fun c2 => ?_)
  · have h := h.1 (of_decide_eq_true c2)
    exact h
  · have h := h.2 (Int.not_le.1 (of_decide_eq_false c2))
    exact h

theorem members_someone.go (wv1 : Int) {R : Value → World → Prop} {w : World} (h : members_someone.N wv1 R w) : Calls Try.prog 54 #[.int .i64 wv1] w fun e w' => ∃ v, e = .returned v ∧ R v w' := members_someone.ok wv1 (members_someone.up wv1 h)
theorem members_someone.run (wv1 : Int) {V : Value} {Q : World → Prop} {w : World} (h : members_someone.N wv1 (fun v w' => v = V ∧ Q w') w) : Calls Try.prog 54 #[.int .i64 wv1] w (Ret V Q) := (members_someone.go wv1 h).mono fun e w' ⟨v, he, hv, hq⟩ => ⟨by rw [he, hv], hq⟩

def members_someone.F (wv1 : Int) : Bool :=
  if wv1 ≥ 0 then
    (decide (wv1 < 8))
  else
    false
theorem members_someone.pure (wv1 : Int) {w : World} : Calls Try.prog 54 #[.int .i64 wv1] w (Ret (.bool (members_someone.F wv1)) fun w' => Ext no w w') := by
  refine members_someone.run wv1 ?_
  unfold members_someone.N
  refine ⟨fun c0 => ?_, fun c0 => ?_⟩
  · exact ⟨by unfold members_someone.F; rw [if_pos c0], Ext.refl _ _⟩
  · exact ⟨by unfold members_someone.F; rw [if_neg (by omega)], Ext.refl _ _⟩

/-- members.boxes -/
def members_boxes.M (l1a : Option Addr) (l1n : Nat) (l1c : Nat) (R : Value → World → Prop) (w : World) : Prop :=
  ∃ (I0 : Nat → List Value → World → Prop) (m4 : Nat), I0 m4 [.int .i64 (-1), .int .i64 0] w ∧ ∀ (m5 : Nat) (ww6 : World) (last2 : Int) (t3 : Int), I0 m5 [.int .i64 last2, .int .i64 t3] ww6 →
  bif decide (t3 < (l1n : Int)) then (
  l1a.elim False fun a7 =>
  0 ≤ (t3 : Int) ∧ (t3 : Int) < (l1n : Int) ∧
  ∃ (xWho8 : Int) (xB9a : Option Addr) (xB9n : Nat) (xB9c : Nat), cellsAt ww6 (a7.add (Int.toNat t3 * 2)) [.int .i64 xWho8, .slice xB9a xB9n xB9c] 0 ∧
  thenW (ww6.alloc (.cells #[.int .i64 0, .slice none 0 0] 85)) fun ww10 =>
  canStore ww10 ((blk ww6.heap.size).add 0) ∧
  thenW (ww10.setCell ((blk ww6.heap.size).add 0) (.int .i64 xWho8)) fun ww11 =>
  canStore ww11 ((blk ww6.heap.size).add 1) ∧
  thenW (ww11.setCell ((blk ww6.heap.size).add 1) (.slice xB9a xB9n xB9c)) fun ww12 =>
  ∃ (Who13 : Int), ww12.cell? ((blk ww6.heap.size).add 0) = some (.int .i64 Who13) ∧
  Calls Try.prog 54 #[.int .i64 Who13] ww12 fun ee15 ww16 => ∃ (someone14 : Bool), ee15 = .returned (.bool someone14) ∧
  bif !someone14 then (
  R (.bool false) ww16) else (
  ∃ (Who17 : Int), ww16.cell? ((blk ww6.heap.size).add 0) = some (.int .i64 Who17) ∧
  bif decide (Who17 ≤ last2) then (
  R (.bool false) ww16) else (
  ∃ (B18a : Option Addr) (B18n : Nat) (B18c : Nat), ww16.cell? ((blk ww6.heap.size).add 1) = some (.slice B18a B18n B18c) ∧
  bif (B18n : Int) != 16 then (
  R (.bool false) ww16) else (
  ∃ (Who19 : Int), ww16.cell? ((blk ww6.heap.size).add 0) = some (.int .i64 Who19) ∧
  ∃ m20, m20 < m5 ∧ I0 m20 [.int .i64 Who19, .int .i64 (IntKind.i64.wrap (t3 + 1))] ww16)))) else (
  R (.bool (decide ((l1n : Int) > 0))) ww6)

theorem members_boxes.eq (l1a : Option Addr) (l1n : Nat) (l1c : Nat) (R : Value → World → Prop) (w : World) : mfunc Try.prog [(0, [0, 6, 7], [(3, (.one (.int .i64))), (8, (.one (.int .i64)))])] 55 [.slice l1a l1n l1c] R w = members_boxes.M l1a l1n l1c R w := by kernel_rfl
theorem members_boxes.ok (l1a : Option Addr) (l1n : Nat) (l1c : Nat) {R : Value → World → Prop} {w : World} (h : members_boxes.M l1a l1n l1c R w) : Calls Try.prog 55 #[.slice l1a l1n l1c] w fun e w' => ∃ v, e = .returned v ∧ R v w' :=
  mfunc_ok follows (H := [(0, [0, 6, 7], [(3, (.one (.int .i64))), (8, (.one (.int .i64)))])]) (args := [.slice l1a l1n l1c]) (by rw [members_boxes.eq]; exact h)

def members_boxes.N (l1a : Option Addr) (l1n : Nat) (l1c : Nat) (R : Value → World → Prop) (w : World) : Prop :=
  ∃ (I0 : Nat → List Value → World → Prop) (m4 : Nat), I0 m4 [.int .i64 (-1), .int .i64 0] w ∧ ∀ (m5 : Nat) (ww6 : World) (last2 : Int) (t3 : Int), I0 m5 [.int .i64 last2, .int .i64 t3] ww6 →
  (t3 < (l1n : Int) →
    ∃ a8 : Addr, l1a = some a8 ∧
    0 ≤ (t3 : Int) ∧ (t3 : Int) < (l1n : Int) ∧
    ∃ (xWho10 : Int) (xB11a : Option Addr) (xB11n : Nat) (xB11c : Nat), cellsAt ww6 (a8.add (Int.toNat t3 * 2)) [.int .i64 xWho10, .slice xB11a xB11n xB11c] 0 ∧
    ((members_someone.F xWho10) = false →
      ∀ (ww15 : World), Ext no ww6 ww15 →
      R (.bool false) ww15) ∧
    ((members_someone.F xWho10) = true →
      (xWho10 ≤ last2 →
        ∀ (ww15 : World), Ext no ww6 ww15 →
        R (.bool false) ww15) ∧
      (last2 < xWho10 →
        ((xB11n : Int) ≠ 16 →
          ∀ (ww15 : World), Ext no ww6 ww15 →
          R (.bool false) ww15) ∧
        ((xB11n : Int) = 16 →
          (-9223372036854775808 : Int) ≤ (t3 + 1) ∧ (t3 + 1) < 9223372036854775808 ∧
          ∀ (ww15 : World), Ext no ww6 ww15 →
          ∃ m23, m23 < m5 ∧ I0 m23 [.int .i64 xWho10, .int .i64 (t3 + 1)] ww15)))) ∧
  ((l1n : Int) ≤ t3 →
    R (.bool (decide ((l1n : Int) > 0))) ww6)

theorem members_boxes.up (l1a : Option Addr) (l1n : Nat) (l1c : Nat) {R : Value → World → Prop} {w : World} (h : members_boxes.N l1a l1n l1c R w) : members_boxes.M l1a l1n l1c R w := by
  unfold members_boxes.M
  unfold members_boxes.N at h
  obtain ⟨I0, m4, h0, h⟩ := h
  refine ⟨I0, m4, h0, fun m5 ww6 last2 t3 hI => ?_⟩
  have h := h m5 ww6 last2 t3 hI
  refine bif_of (fun c7 => ?_) (fun c7 => ?_)
  · have h := h.1 (of_decide_eq_true c7)
    obtain ⟨a8, ha8, h⟩ := h
    refine elim_some ha8 ?_
    obtain ⟨hq1, hq2, h⟩ := h
    refine ⟨hq1, hq2, ?_⟩
    obtain ⟨xWho10, xB11a, xB11n, xB11c, hc9, h⟩ := h
    refine ⟨xWho10, xB11a, xB11n, xB11c, hc9, ?_⟩
    refine thenW_in fun ww12 e12 => ?_
    have hb1 := Blk.of_new e12
    have hg1 := ((Ext.refl no ww6)).size
    have hx12 := (Ext.refl no ww6).x_alloc e12
    refine ⟨hb1.cani 0 rfl rfl, thenW_in fun ww13 e13 => ?_⟩
    have hx13 := hx12.x_set (q := ww6.heap.size) (i := 0) rfl (.inr hg1) e13
    have hb1 := hb1.seti 0 rfl e13
    refine ⟨hb1.cani 1 rfl rfl, thenW_in fun ww14 e14 => ?_⟩
    have hx14 := hx13.x_set (q := ww6.heap.size) (i := 1) rfl (.inr hg1) e14
    have hb1 := hb1.seti 1 rfl e14
    refine ⟨xWho10, hb1.celli 0 rfl rfl, ?_⟩
    refine (members_someone.pure xWho10).mono fun ee ww15 ⟨he, hxx⟩ => ⟨(members_someone.F xWho10), he, ?_⟩
    have hx15 := hx14.trans hxx
    have hb1 := hb1.ext hxx id
    refine bif_of (fun c16 => ?_) (fun c16 => ?_)
    · have h := h.1 (not_t c16)
      have h := h ww15 hx15
      exact h
    · have h := h.2 (not_f c16)
      refine ⟨xWho10, hb1.celli 0 rfl rfl, ?_⟩
      refine bif_of (fun c18 => ?_) (fun c18 => ?_)
      · have h := h.1 (of_decide_eq_true c18)
        have h := h ww15 hx15
        exact h
      · have h := h.2 (Int.not_le.1 (of_decide_eq_false c18))
        refine ⟨xB11a, xB11n, xB11c, hb1.celli 1 rfl rfl, ?_⟩
        refine bif_of (fun c20 => ?_) (fun c20 => ?_)
        · have h := h.1 (bne_t c20)
          have h := h ww15 hx15
          exact h
        · have h := h.2 (bne_f c20)
          refine ⟨xWho10, hb1.celli 0 rfl rfl, ?_⟩
          obtain ⟨hw1, hw2, h⟩ := h
          try rw [w64 hw1 hw2]
          have h := h ww15 hx15
          obtain ⟨m23, hk, h⟩ := h
          exact ⟨m23, hk, h⟩
  · have h := h.2 (Int.not_lt.1 (of_decide_eq_false c7))
    exact h

theorem members_boxes.go (l1a : Option Addr) (l1n : Nat) (l1c : Nat) {R : Value → World → Prop} {w : World} (h : members_boxes.N l1a l1n l1c R w) : Calls Try.prog 55 #[.slice l1a l1n l1c] w fun e w' => ∃ v, e = .returned v ∧ R v w' := members_boxes.ok l1a l1n l1c (members_boxes.up l1a l1n l1c h)
theorem members_boxes.run (l1a : Option Addr) (l1n : Nat) (l1c : Nat) {V : Value} {Q : World → Prop} {w : World} (h : members_boxes.N l1a l1n l1c (fun v w' => v = V ∧ Q w') w) : Calls Try.prog 55 #[.slice l1a l1n l1c] w (Ret V Q) := (members_boxes.go l1a l1n l1c h).mono fun e w' ⟨v, he, hv, hq⟩ => ⟨by rw [he, hv], hq⟩

/-- members.Right -/
def members_Right.M (cKind1 : Int) (cWho2 : Int) (cPublic3 : Int) (cLimit4 : Int) (cWraps5a : Option Addr) (cWraps5n : Nat) (cWraps5c : Nat) (cOld6a : Option Addr) (cOld6n : Nat) (cOld6c : Nat) (R : Value → World → Prop) (w : World) : Prop :=
  thenW (w.alloc (.cells #[.int .i64 cKind1, .int .i64 cWho2, .int .u64 cPublic3, .int .i64 cLimit4, .slice cWraps5a cWraps5n cWraps5c, .slice cOld6a cOld6n cOld6c] 36)) fun ww7 =>
  thenW (ww7.drew) fun ww8 =>
  ∃ (Who9 : Int), ww8.cell? ((blk w.heap.size).add 1) = some (.int .i64 Who9) ∧
  Calls Try.prog 54 #[.int .i64 Who9] ww8 fun ee11 ww12 => ∃ (someone10 : Bool), ee11 = .returned (.bool someone10) ∧
  bif !someone10 then (
  R (.bool false) ww12) else (
  ∃ (Kind13 : Int), ww12.cell? ((blk w.heap.size).add 0) = some (.int .i64 Kind13) ∧
  ∃ (Wraps14a : Option Addr) (Wraps14n : Nat) (Wraps14c : Nat), ww12.cell? ((blk w.heap.size).add 4) = some (.slice Wraps14a Wraps14n Wraps14c) ∧
  Calls Try.prog 55 #[.slice Wraps14a Wraps14n Wraps14c] ww12 fun ee16 ww17 => ∃ (boxes15 : Bool), ee16 = .returned (.bool boxes15) ∧
  ww17.cell? ((blk w.heap.size).add 0) = some (.int .i64 Kind13) ∧
  bif !((Kind13 == 3) == boxes15) then (
  R (.bool false) ww17) else (
  ∃ (Kind18 : Int), ww17.cell? ((blk w.heap.size).add 0) = some (.int .i64 Kind18) ∧
  bif Kind18 != 3 then (
  ∃ (Wraps19a : Option Addr) (Wraps19n : Nat) (Wraps19c : Nat), ww17.cell? ((blk w.heap.size).add 4) = some (.slice Wraps19a Wraps19n Wraps19c) ∧
  ∃ (Old20a : Option Addr) (Old20n : Nat) (Old20c : Nat), ww17.cell? ((blk w.heap.size).add 5) = some (.slice Old20a Old20n Old20c) ∧
  bif decide ((IntKind.i64.wrap ((Wraps19n : Int) + (Old20n : Int))) > 0) then (
  R (.bool false) ww17) else (
  ∃ (Kind21 : Int), ww17.cell? ((blk w.heap.size).add 0) = some (.int .i64 Kind21) ∧
  bif Kind21 == 1 then (
  ∃ (Public22 : Int), ww17.cell? ((blk w.heap.size).add 2) = some (.int .u64 Public22) ∧
  bif Public22 != 0 then (
  ∃ (Limit23 : Int), ww17.cell? ((blk w.heap.size).add 3) = some (.int .i64 Limit23) ∧
  R (.bool (Limit23 == 0)) ww17) else (
  R (.bool false) ww17)) else (
  bif Kind21 == 2 then (
  ∃ (Who24 : Int), ww17.cell? ((blk w.heap.size).add 1) = some (.int .i64 Who24) ∧
  bif Who24 != 0 then (
  ∃ (Public25 : Int), ww17.cell? ((blk w.heap.size).add 2) = some (.int .u64 Public25) ∧
  bif Public25 == 0 then (
  ∃ (Limit26 : Int), ww17.cell? ((blk w.heap.size).add 3) = some (.int .i64 Limit26) ∧
  bif decide (Limit26 ≥ 0) then (
  ∃ (Limit27 : Int), ww17.cell? ((blk w.heap.size).add 3) = some (.int .i64 Limit27) ∧
  R (.bool (decide (Limit27 ≤ 200))) ww17) else (
  R (.bool false) ww17)) else (
  R (.bool false) ww17)) else (
  R (.bool false) ww17)) else (
  bif Kind21 == 3 then (
  ∃ (Who28 : Int), ww17.cell? ((blk w.heap.size).add 1) = some (.int .i64 Who28) ∧
  bif Who28 == 0 then (
  ∃ (Public29 : Int), ww17.cell? ((blk w.heap.size).add 2) = some (.int .u64 Public29) ∧
  bif Public29 == 0 then (
  ∃ (Limit30 : Int), ww17.cell? ((blk w.heap.size).add 3) = some (.int .i64 Limit30) ∧
  bif Limit30 == 0 then (
  ∃ (Old31a : Option Addr) (Old31n : Nat) (Old31c : Nat), ww17.cell? ((blk w.heap.size).add 5) = some (.slice Old31a Old31n Old31c) ∧
  bif (Old31n : Int) == 0 then (
  R (.bool true) ww17) else (
  ∃ (Old32a : Option Addr) (Old32n : Nat) (Old32c : Nat), ww17.cell? ((blk w.heap.size).add 5) = some (.slice Old32a Old32n Old32c) ∧
  R (.bool ((Old32n : Int) == 24)) ww17)) else (
  R (.bool false) ww17)) else (
  R (.bool false) ww17)) else (
  R (.bool false) ww17)) else (
  R (.bool false) ww17))))) else (
  ∃ (Kind33 : Int), ww17.cell? ((blk w.heap.size).add 0) = some (.int .i64 Kind33) ∧
  bif Kind33 == 1 then (
  ∃ (Public34 : Int), ww17.cell? ((blk w.heap.size).add 2) = some (.int .u64 Public34) ∧
  bif Public34 != 0 then (
  ∃ (Limit35 : Int), ww17.cell? ((blk w.heap.size).add 3) = some (.int .i64 Limit35) ∧
  R (.bool (Limit35 == 0)) ww17) else (
  R (.bool false) ww17)) else (
  bif Kind33 == 2 then (
  ∃ (Who36 : Int), ww17.cell? ((blk w.heap.size).add 1) = some (.int .i64 Who36) ∧
  bif Who36 != 0 then (
  ∃ (Public37 : Int), ww17.cell? ((blk w.heap.size).add 2) = some (.int .u64 Public37) ∧
  bif Public37 == 0 then (
  ∃ (Limit38 : Int), ww17.cell? ((blk w.heap.size).add 3) = some (.int .i64 Limit38) ∧
  bif decide (Limit38 ≥ 0) then (
  ∃ (Limit39 : Int), ww17.cell? ((blk w.heap.size).add 3) = some (.int .i64 Limit39) ∧
  R (.bool (decide (Limit39 ≤ 200))) ww17) else (
  R (.bool false) ww17)) else (
  R (.bool false) ww17)) else (
  R (.bool false) ww17)) else (
  bif Kind33 == 3 then (
  ∃ (Who40 : Int), ww17.cell? ((blk w.heap.size).add 1) = some (.int .i64 Who40) ∧
  bif Who40 == 0 then (
  ∃ (Public41 : Int), ww17.cell? ((blk w.heap.size).add 2) = some (.int .u64 Public41) ∧
  bif Public41 == 0 then (
  ∃ (Limit42 : Int), ww17.cell? ((blk w.heap.size).add 3) = some (.int .i64 Limit42) ∧
  bif Limit42 == 0 then (
  ∃ (Old43a : Option Addr) (Old43n : Nat) (Old43c : Nat), ww17.cell? ((blk w.heap.size).add 5) = some (.slice Old43a Old43n Old43c) ∧
  bif (Old43n : Int) == 0 then (
  R (.bool true) ww17) else (
  ∃ (Old44a : Option Addr) (Old44n : Nat) (Old44c : Nat), ww17.cell? ((blk w.heap.size).add 5) = some (.slice Old44a Old44n Old44c) ∧
  R (.bool ((Old44n : Int) == 24)) ww17)) else (
  R (.bool false) ww17)) else (
  R (.bool false) ww17)) else (
  R (.bool false) ww17)) else (
  R (.bool false) ww17))))))

theorem members_Right.eq (cKind1 : Int) (cWho2 : Int) (cPublic3 : Int) (cLimit4 : Int) (cWraps5a : Option Addr) (cWraps5n : Nat) (cWraps5c : Nat) (cOld6a : Option Addr) (cOld6n : Nat) (cOld6c : Nat) (R : Value → World → Prop) (w : World) : mfunc Try.prog [] 31 [.agg #[.int .i64 cKind1, .int .i64 cWho2, .int .u64 cPublic3, .int .i64 cLimit4, .slice cWraps5a cWraps5n cWraps5c, .slice cOld6a cOld6n cOld6c]] R w = members_Right.M cKind1 cWho2 cPublic3 cLimit4 cWraps5a cWraps5n cWraps5c cOld6a cOld6n cOld6c R w := by kernel_rfl
theorem members_Right.ok (cKind1 : Int) (cWho2 : Int) (cPublic3 : Int) (cLimit4 : Int) (cWraps5a : Option Addr) (cWraps5n : Nat) (cWraps5c : Nat) (cOld6a : Option Addr) (cOld6n : Nat) (cOld6c : Nat) {R : Value → World → Prop} {w : World} (h : members_Right.M cKind1 cWho2 cPublic3 cLimit4 cWraps5a cWraps5n cWraps5c cOld6a cOld6n cOld6c R w) : Calls Try.prog 31 #[.agg #[.int .i64 cKind1, .int .i64 cWho2, .int .u64 cPublic3, .int .i64 cLimit4, .slice cWraps5a cWraps5n cWraps5c, .slice cOld6a cOld6n cOld6c]] w fun e w' => ∃ v, e = .returned v ∧ R v w' :=
  mfunc_ok follows (H := []) (args := [.agg #[.int .i64 cKind1, .int .i64 cWho2, .int .u64 cPublic3, .int .i64 cLimit4, .slice cWraps5a cWraps5n cWraps5c, .slice cOld6a cOld6n cOld6c]]) (by rw [members_Right.eq]; exact h)

def members_Right.N (cKind1 : Int) (cWho2 : Int) (cPublic3 : Int) (cLimit4 : Int) (cWraps5a : Option Addr) (cWraps5n : Nat) (cWraps5c : Nat) (cOld6a : Option Addr) (cOld6n : Nat) (cOld6c : Nat) (R : Value → World → Prop) (w : World) : Prop :=
  ((members_someone.F cWho2) = false →
    ∀ (ww9 : World), Ext no w ww9 →
    R (.bool false) ww9) ∧
  ((members_someone.F cWho2) = true →
    ∀ (ww9 : World) (p12 : Nat), Ext no w ww9 → Priv w ww9 [p12] →
    Calls Try.prog 55 #[.slice cWraps5a cWraps5n cWraps5c] ww9 fun ee14 ww15 => ∃ (boxes13 : Bool), ee14 = .returned (.bool boxes13) ∧
    Keep [p12] ww9 ww15 ∧
    ((cKind1 == 3) ≠ boxes13 →
      R (.bool false) ww15) ∧
    ((cKind1 == 3) = boxes13 →
      (cKind1 ≠ 3 →
        (-9223372036854775808 : Int) ≤ ((cWraps5n : Int) + (cOld6n : Int)) ∧ ((cWraps5n : Int) + (cOld6n : Int)) < 9223372036854775808 ∧
        (((cWraps5n : Int) + (cOld6n : Int)) > 0 →
          R (.bool false) ww15) ∧
        (((cWraps5n : Int) + (cOld6n : Int)) ≤ 0 →
          (cKind1 = 1 →
            (cPublic3 ≠ 0 →
              R (.bool (cLimit4 == 0)) ww15) ∧
            (cPublic3 = 0 →
              R (.bool false) ww15)) ∧
          (cKind1 ≠ 1 →
            (cKind1 = 2 →
              (cWho2 ≠ 0 →
                (cPublic3 = 0 →
                  (cLimit4 ≥ 0 →
                    R (.bool (decide (cLimit4 ≤ 200))) ww15) ∧
                  (cLimit4 < 0 →
                    R (.bool false) ww15)) ∧
                (cPublic3 ≠ 0 →
                  R (.bool false) ww15)) ∧
              (cWho2 = 0 →
                R (.bool false) ww15)) ∧
            (cKind1 ≠ 2 →
              (cKind1 = 3 →
                (cWho2 = 0 →
                  (cPublic3 = 0 →
                    (cLimit4 = 0 →
                      ((cOld6n : Int) = 0 →
                        R (.bool true) ww15) ∧
                      ((cOld6n : Int) ≠ 0 →
                        R (.bool ((cOld6n : Int) == 24)) ww15)) ∧
                    (cLimit4 ≠ 0 →
                      R (.bool false) ww15)) ∧
                  (cPublic3 ≠ 0 →
                    R (.bool false) ww15)) ∧
                (cWho2 ≠ 0 →
                  R (.bool false) ww15)) ∧
              (cKind1 ≠ 3 →
                R (.bool false) ww15))))) ∧
      (cKind1 = 3 →
        (cKind1 = 1 →
          (cPublic3 ≠ 0 →
            R (.bool (cLimit4 == 0)) ww15) ∧
          (cPublic3 = 0 →
            R (.bool false) ww15)) ∧
        (cKind1 ≠ 1 →
          (cKind1 = 2 →
            (cWho2 ≠ 0 →
              (cPublic3 = 0 →
                (cLimit4 ≥ 0 →
                  R (.bool (decide (cLimit4 ≤ 200))) ww15) ∧
                (cLimit4 < 0 →
                  R (.bool false) ww15)) ∧
              (cPublic3 ≠ 0 →
                R (.bool false) ww15)) ∧
            (cWho2 = 0 →
              R (.bool false) ww15)) ∧
          (cKind1 ≠ 2 →
            (cKind1 = 3 →
              (cWho2 = 0 →
                (cPublic3 = 0 →
                  (cLimit4 = 0 →
                    ((cOld6n : Int) = 0 →
                      R (.bool true) ww15) ∧
                    ((cOld6n : Int) ≠ 0 →
                      R (.bool ((cOld6n : Int) == 24)) ww15)) ∧
                  (cLimit4 ≠ 0 →
                    R (.bool false) ww15)) ∧
                (cPublic3 ≠ 0 →
                  R (.bool false) ww15)) ∧
              (cWho2 ≠ 0 →
                R (.bool false) ww15)) ∧
            (cKind1 ≠ 3 →
              R (.bool false) ww15))))))

theorem members_Right.up (cKind1 : Int) (cWho2 : Int) (cPublic3 : Int) (cLimit4 : Int) (cWraps5a : Option Addr) (cWraps5n : Nat) (cWraps5c : Nat) (cOld6a : Option Addr) (cOld6n : Nat) (cOld6c : Nat) {R : Value → World → Prop} {w : World} (h : members_Right.N cKind1 cWho2 cPublic3 cLimit4 cWraps5a cWraps5n cWraps5c cOld6a cOld6n cOld6c R w) : members_Right.M cKind1 cWho2 cPublic3 cLimit4 cWraps5a cWraps5n cWraps5c cOld6a cOld6n cOld6c R w := by
  unfold members_Right.M
  unfold members_Right.N at h
  refine thenW_in fun ww7 e7 => ?_
  have hb1 := Blk.of_new e7
  have hg1 := ((Ext.refl no w)).size
  have hx7 := (Ext.refl no w).x_alloc e7
  refine thenW_in fun ww8 e8 => ?_
  have hx8 := hx7.x_drew e8
  have hb1 := hb1.x_drew e8
  refine ⟨cWho2, hb1.celli 1 rfl rfl, ?_⟩
  refine (members_someone.pure cWho2).mono fun ee ww9 ⟨he, hxx⟩ => ⟨(members_someone.F cWho2), he, ?_⟩
  have hx9 := hx8.trans hxx
  have hb1 := hb1.ext hxx id
  refine bif_of (fun c10 => ?_) (fun c10 => ?_)
  · have h := h.1 (not_t c10)
    have h := h ww9 hx9
    exact h
  · have h := h.2 (not_f c10)
    refine ⟨cKind1, hb1.celli 0 rfl rfl, ?_⟩
    refine ⟨cWraps5a, cWraps5n, cWraps5c, hb1.celli 4 rfl rfl, ?_⟩
    have h := h ww9 (w.heap.size) hx9 (Priv.cons hg1 hb1.lt Priv.nil)
    refine h.mono fun ee14 ww15 h => ?_
    obtain ⟨boxes13, he, hk, h⟩ := h
    refine ⟨boxes13, he, ?_⟩
    have hb1 := hk.blk hb1 (by simp)
    refine ⟨hb1.celli 0 rfl rfl, ?_⟩
    refine bif_of (fun c16 => ?_) (fun c16 => ?_)
    · have h := h.1 (bbeq_f (not_t c16))
      exact h
    · have h := h.2 (bbeq_t (not_f c16))
      refine ⟨cKind1, hb1.celli 0 rfl rfl, ?_⟩
      refine bif_of (fun c17 => ?_) (fun c17 => ?_)
      · have h := h.1 (bne_t c17)
        refine ⟨cWraps5a, cWraps5n, cWraps5c, hb1.celli 4 rfl rfl, ?_⟩
        refine ⟨cOld6a, cOld6n, cOld6c, hb1.celli 5 rfl rfl, ?_⟩
        obtain ⟨hw1, hw2, h⟩ := h
        try rw [w64 hw1 hw2]
        refine bif_of (fun c18 => ?_) (fun c18 => ?_)
        · have h := h.1 (of_decide_eq_true c18)
          exact h
        · have h := h.2 (Int.not_lt.1 (of_decide_eq_false c18))
          refine ⟨cKind1, hb1.celli 0 rfl rfl, ?_⟩
          refine bif_of (fun c19 => ?_) (fun c19 => ?_)
          · have h := h.1 (beq_t c19)
            refine ⟨cPublic3, hb1.celli 2 rfl rfl, ?_⟩
            refine bif_of (fun c20 => ?_) (fun c20 => ?_)
            · have h := h.1 (bne_t c20)
              refine ⟨cLimit4, hb1.celli 3 rfl rfl, ?_⟩
              exact h
            · have h := h.2 (bne_f c20)
              exact h
          · have h := h.2 (beq_f c19)
            refine bif_of (fun c21 => ?_) (fun c21 => ?_)
            · have h := h.1 (beq_t c21)
              refine ⟨cWho2, hb1.celli 1 rfl rfl, ?_⟩
              refine bif_of (fun c22 => ?_) (fun c22 => ?_)
              · have h := h.1 (bne_t c22)
                refine ⟨cPublic3, hb1.celli 2 rfl rfl, ?_⟩
                refine bif_of (fun c23 => ?_) (fun c23 => ?_)
                · have h := h.1 (beq_t c23)
                  refine ⟨cLimit4, hb1.celli 3 rfl rfl, ?_⟩
                  refine bif_of (fun c24 => ?_) (fun c24 => ?_)
                  · have h := h.1 (of_decide_eq_true c24)
                    refine ⟨cLimit4, hb1.celli 3 rfl rfl, ?_⟩
                    exact h
                  · have h := h.2 (Int.not_le.1 (of_decide_eq_false c24))
                    exact h
                · have h := h.2 (beq_f c23)
                  exact h
              · have h := h.2 (bne_f c22)
                exact h
            · have h := h.2 (beq_f c21)
              refine bif_of (fun c25 => ?_) (fun c25 => ?_)
              · have h := h.1 (beq_t c25)
                refine ⟨cWho2, hb1.celli 1 rfl rfl, ?_⟩
                refine bif_of (fun c26 => ?_) (fun c26 => ?_)
                · have h := h.1 (beq_t c26)
                  refine ⟨cPublic3, hb1.celli 2 rfl rfl, ?_⟩
                  refine bif_of (fun c27 => ?_) (fun c27 => ?_)
                  · have h := h.1 (beq_t c27)
                    refine ⟨cLimit4, hb1.celli 3 rfl rfl, ?_⟩
                    refine bif_of (fun c28 => ?_) (fun c28 => ?_)
                    · have h := h.1 (beq_t c28)
                      refine ⟨cOld6a, cOld6n, cOld6c, hb1.celli 5 rfl rfl, ?_⟩
                      refine bif_of (fun c29 => ?_) (fun c29 => ?_)
                      · have h := h.1 (beq_t c29)
                        exact h
                      · have h := h.2 (beq_f c29)
                        refine ⟨cOld6a, cOld6n, cOld6c, hb1.celli 5 rfl rfl, ?_⟩
                        exact h
                    · have h := h.2 (beq_f c28)
                      exact h
                  · have h := h.2 (beq_f c27)
                    exact h
                · have h := h.2 (beq_f c26)
                  exact h
              · have h := h.2 (beq_f c25)
                exact h
      · have h := h.2 (bne_f c17)
        refine ⟨cKind1, hb1.celli 0 rfl rfl, ?_⟩
        refine bif_of (fun c30 => ?_) (fun c30 => ?_)
        · have h := h.1 (beq_t c30)
          refine ⟨cPublic3, hb1.celli 2 rfl rfl, ?_⟩
          refine bif_of (fun c31 => ?_) (fun c31 => ?_)
          · have h := h.1 (bne_t c31)
            refine ⟨cLimit4, hb1.celli 3 rfl rfl, ?_⟩
            exact h
          · have h := h.2 (bne_f c31)
            exact h
        · have h := h.2 (beq_f c30)
          refine bif_of (fun c32 => ?_) (fun c32 => ?_)
          · have h := h.1 (beq_t c32)
            refine ⟨cWho2, hb1.celli 1 rfl rfl, ?_⟩
            refine bif_of (fun c33 => ?_) (fun c33 => ?_)
            · have h := h.1 (bne_t c33)
              refine ⟨cPublic3, hb1.celli 2 rfl rfl, ?_⟩
              refine bif_of (fun c34 => ?_) (fun c34 => ?_)
              · have h := h.1 (beq_t c34)
                refine ⟨cLimit4, hb1.celli 3 rfl rfl, ?_⟩
                refine bif_of (fun c35 => ?_) (fun c35 => ?_)
                · have h := h.1 (of_decide_eq_true c35)
                  refine ⟨cLimit4, hb1.celli 3 rfl rfl, ?_⟩
                  exact h
                · have h := h.2 (Int.not_le.1 (of_decide_eq_false c35))
                  exact h
              · have h := h.2 (beq_f c34)
                exact h
            · have h := h.2 (bne_f c33)
              exact h
          · have h := h.2 (beq_f c32)
            refine bif_of (fun c36 => ?_) (fun c36 => ?_)
            · have h := h.1 (beq_t c36)
              refine ⟨cWho2, hb1.celli 1 rfl rfl, ?_⟩
              refine bif_of (fun c37 => ?_) (fun c37 => ?_)
              · have h := h.1 (beq_t c37)
                refine ⟨cPublic3, hb1.celli 2 rfl rfl, ?_⟩
                refine bif_of (fun c38 => ?_) (fun c38 => ?_)
                · have h := h.1 (beq_t c38)
                  refine ⟨cLimit4, hb1.celli 3 rfl rfl, ?_⟩
                  refine bif_of (fun c39 => ?_) (fun c39 => ?_)
                  · have h := h.1 (beq_t c39)
                    refine ⟨cOld6a, cOld6n, cOld6c, hb1.celli 5 rfl rfl, ?_⟩
                    refine bif_of (fun c40 => ?_) (fun c40 => ?_)
                    · have h := h.1 (beq_t c40)
                      exact h
                    · have h := h.2 (beq_f c40)
                      refine ⟨cOld6a, cOld6n, cOld6c, hb1.celli 5 rfl rfl, ?_⟩
                      exact h
                  · have h := h.2 (beq_f c39)
                    exact h
                · have h := h.2 (beq_f c38)
                  exact h
              · have h := h.2 (beq_f c37)
                exact h
            · have h := h.2 (beq_f c36)
              exact h

theorem members_Right.go (cKind1 : Int) (cWho2 : Int) (cPublic3 : Int) (cLimit4 : Int) (cWraps5a : Option Addr) (cWraps5n : Nat) (cWraps5c : Nat) (cOld6a : Option Addr) (cOld6n : Nat) (cOld6c : Nat) {R : Value → World → Prop} {w : World} (h : members_Right.N cKind1 cWho2 cPublic3 cLimit4 cWraps5a cWraps5n cWraps5c cOld6a cOld6n cOld6c R w) : Calls Try.prog 31 #[.agg #[.int .i64 cKind1, .int .i64 cWho2, .int .u64 cPublic3, .int .i64 cLimit4, .slice cWraps5a cWraps5n cWraps5c, .slice cOld6a cOld6n cOld6c]] w fun e w' => ∃ v, e = .returned v ∧ R v w' := members_Right.ok cKind1 cWho2 cPublic3 cLimit4 cWraps5a cWraps5n cWraps5c cOld6a cOld6n cOld6c (members_Right.up cKind1 cWho2 cPublic3 cLimit4 cWraps5a cWraps5n cWraps5c cOld6a cOld6n cOld6c h)
theorem members_Right.run (cKind1 : Int) (cWho2 : Int) (cPublic3 : Int) (cLimit4 : Int) (cWraps5a : Option Addr) (cWraps5n : Nat) (cWraps5c : Nat) (cOld6a : Option Addr) (cOld6n : Nat) (cOld6c : Nat) {V : Value} {Q : World → Prop} {w : World} (h : members_Right.N cKind1 cWho2 cPublic3 cLimit4 cWraps5a cWraps5n cWraps5c cOld6a cOld6n cOld6c (fun v w' => v = V ∧ Q w') w) : Calls Try.prog 31 #[.agg #[.int .i64 cKind1, .int .i64 cWho2, .int .u64 cPublic3, .int .i64 cLimit4, .slice cWraps5a cWraps5n cWraps5c, .slice cOld6a cOld6n cOld6c]] w (Ret V Q) := (members_Right.go cKind1 cWho2 cPublic3 cLimit4 cWraps5a cWraps5n cWraps5c cOld6a cOld6n cOld6c h).mono fun e w' ⟨v, he, hv, hq⟩ => ⟨by rw [he, hv], hq⟩

/-- members.New -/
def members_New.M (publicv1 : Int) (R : Value → World → Prop) (w : World) : Prop :=
  thenW (w.alloc (.cells #[.slice none 0 0, .int .i64 0] 28)) fun ww2 =>
  thenW (ww2.alloc (.cells #[.int .i64 0, .int .u64 publicv1, .int .i64 0, .int .i64 (-1), .int .i64 0] 49)) fun ww3 =>
  canStore ww3 ((blk w.heap.size).add 0) ∧
  thenW (ww3.setCell ((blk w.heap.size).add 0) (.slice (some (blk ww2.heap.size)) 1 1)) fun ww4 =>
  canStore ww4 ((blk w.heap.size).add 1) ∧
  thenW (ww4.setCell ((blk w.heap.size).add 1) (.int .i64 (-1))) fun ww5 =>
  ∃ (resL6a : Option Addr) (resL6n : Nat) (resL6c : Nat) (resEpoch7 : Int), cellsAt ww5 (blk w.heap.size) [.slice resL6a resL6n resL6c, .int .i64 resEpoch7] 0 ∧
  R (.agg #[.slice resL6a resL6n resL6c, .int .i64 resEpoch7]) ww5

theorem members_New.eq (publicv1 : Int) (R : Value → World → Prop) (w : World) : mfunc Try.prog [] 11 [.int .u64 publicv1] R w = members_New.M publicv1 R w := by kernel_rfl
theorem members_New.ok (publicv1 : Int) {R : Value → World → Prop} {w : World} (h : members_New.M publicv1 R w) : Calls Try.prog 11 #[.int .u64 publicv1] w fun e w' => ∃ v, e = .returned v ∧ R v w' :=
  mfunc_ok follows (H := []) (args := [.int .u64 publicv1]) (by rw [members_New.eq]; exact h)

def members_New.N (publicv1 : Int) (R : Value → World → Prop) (w : World) : Prop :=
  ∀ (ww3 : World) (q4 : Nat) (p5 : Nat), Ext no w ww3 → Blk ww3 q4 49 [.int .i64 0, .int .u64 publicv1, .int .i64 0, .int .i64 (-1), .int .i64 0] → w.heap.size ≤ q4 → q4 < ww3.heap.size → Privq w q4 [p5] →
  ∀ (ww7 : World), Ext (fun b => b = p5) ww3 ww7 →
  R (.agg #[.slice (some (blk q4)) 1 1, .int .i64 (-1)]) ww7

theorem members_New.up (publicv1 : Int) {R : Value → World → Prop} {w : World} (h : members_New.N publicv1 R w) : members_New.M publicv1 R w := by
  unfold members_New.M
  unfold members_New.N at h
  refine thenW_in fun ww2 e2 => ?_
  have hb1 := Blk.of_new e2
  have hg1 := ((Ext.refl no w)).size
  have hx2 := (Ext.refl no w).x_alloc e2
  refine thenW_in fun ww3 e3 => ?_
  have hl1 := hb1.lt
  have hb1 := hb1.x_alloc e3
  have h := h ww3 ww2.heap.size (w.heap.size) (hx2.x_alloc e3) (Blk.of_new e3) (hx2).size (size_lt_alloc e3) (Privq.cons hg1 hl1 Privq.nil)
  have hm7 : Ext (fun b => b = w.heap.size) ww3 ww3 := ((Ext.refl no ww3)).none
  refine ⟨hb1.cani 0 rfl rfl, thenW_in fun ww6 e6 => ?_⟩
  have hx6 := hm7.x_set (q := w.heap.size) (i := 0) rfl (.inl rfl) e6
  have hb1 := hb1.seti 0 rfl e6
  refine ⟨hb1.cani 1 rfl rfl, thenW_in fun ww7 e7 => ?_⟩
  have hx7 := hx6.x_set (q := w.heap.size) (i := 1) rfl (.inl rfl) e7
  have hb1 := hb1.seti 1 rfl e7
  refine ⟨(some (blk ww2.heap.size)), 1, 1, (-1), ⟨hb1.celli 0 rfl rfl, hb1.celli 1 rfl rfl, trivial⟩, ?_⟩
  have h := h ww7 hx7
  exact h

theorem members_New.go (publicv1 : Int) {R : Value → World → Prop} {w : World} (h : members_New.N publicv1 R w) : Calls Try.prog 11 #[.int .u64 publicv1] w fun e w' => ∃ v, e = .returned v ∧ R v w' := members_New.ok publicv1 (members_New.up publicv1 h)
theorem members_New.run (publicv1 : Int) {V : Value} {Q : World → Prop} {w : World} (h : members_New.N publicv1 (fun v w' => v = V ∧ Q w') w) : Calls Try.prog 11 #[.int .u64 publicv1] w (Ret V Q) := (members_New.go publicv1 h).mono fun e w' ⟨v, he, hv, hq⟩ => ⟨by rw [he, hv], hq⟩

/-- (members.State).find -/
def members_State_find.M (sL1a : Option Addr) (sL1n : Nat) (sL1c : Nat) (sEpoch2 : Int) (who3 : Int) (R : Value → World → Prop) (w : World) : Prop :=
  thenW (w.alloc (.cells #[.slice sL1a sL1n sL1c, .int .i64 sEpoch2] 28)) fun ww4 =>
  ∃ (L5a : Option Addr) (L5n : Nat) (L5c : Nat), ww4.cell? ((blk w.heap.size).add 0) = some (.slice L5a L5n L5c) ∧
  Calls Try.prog 61 #[.slice L5a L5n L5c, .int .i64 who3, .func (.func 62) #[] #[]] ww4 fun ee8 ww9 => ∃ (binaryse6 : Int) (binaryse7 : Bool), ee8 = .returned (.tuple #[.int .i64 binaryse6, .bool binaryse7]) ∧
  R (.tuple #[.int .i64 binaryse6, .bool binaryse7]) ww9

theorem members_State_find.eq (sL1a : Option Addr) (sL1n : Nat) (sL1c : Nat) (sEpoch2 : Int) (who3 : Int) (R : Value → World → Prop) (w : World) : mfunc Try.prog [] 39 [.agg #[.slice sL1a sL1n sL1c, .int .i64 sEpoch2], .int .i64 who3] R w = members_State_find.M sL1a sL1n sL1c sEpoch2 who3 R w := by kernel_rfl
theorem members_State_find.ok (sL1a : Option Addr) (sL1n : Nat) (sL1c : Nat) (sEpoch2 : Int) (who3 : Int) {R : Value → World → Prop} {w : World} (h : members_State_find.M sL1a sL1n sL1c sEpoch2 who3 R w) : Calls Try.prog 39 #[.agg #[.slice sL1a sL1n sL1c, .int .i64 sEpoch2], .int .i64 who3] w fun e w' => ∃ v, e = .returned v ∧ R v w' :=
  mfunc_ok follows (H := []) (args := [.agg #[.slice sL1a sL1n sL1c, .int .i64 sEpoch2], .int .i64 who3]) (by rw [members_State_find.eq]; exact h)

def members_State_find.N (sL1a : Option Addr) (sL1n : Nat) (sL1c : Nat) (sEpoch2 : Int) (who3 : Int) (R : Value → World → Prop) (w : World) : Prop :=
  ∀ (ww4 : World), Ext no w ww4 →
  Calls Try.prog 61 #[.slice sL1a sL1n sL1c, .int .i64 who3, .func (.func 62) #[] #[]] ww4 fun ee8 ww9 => ∃ (binaryse6 : Int) (binaryse7 : Bool), ee8 = .returned (.tuple #[.int .i64 binaryse6, .bool binaryse7]) ∧
  R (.tuple #[.int .i64 binaryse6, .bool binaryse7]) ww9

theorem members_State_find.up (sL1a : Option Addr) (sL1n : Nat) (sL1c : Nat) (sEpoch2 : Int) (who3 : Int) {R : Value → World → Prop} {w : World} (h : members_State_find.N sL1a sL1n sL1c sEpoch2 who3 R w) : members_State_find.M sL1a sL1n sL1c sEpoch2 who3 R w := by
  unfold members_State_find.M
  unfold members_State_find.N at h
  refine thenW_in fun ww4 e4 => ?_
  have hb1 := Blk.of_new e4
  have hg1 := ((Ext.refl no w)).size
  have hx4 := (Ext.refl no w).x_alloc e4
  refine ⟨sL1a, sL1n, sL1c, hb1.celli 0 rfl rfl, ?_⟩
  have h := h ww4 hx4
  refine h.mono fun ee8 ww9 h => ?_
  obtain ⟨binaryse6, binaryse7, he, h⟩ := h
  refine ⟨binaryse6, binaryse7, he, ?_⟩
  exact h

theorem members_State_find.go (sL1a : Option Addr) (sL1n : Nat) (sL1c : Nat) (sEpoch2 : Int) (who3 : Int) {R : Value → World → Prop} {w : World} (h : members_State_find.N sL1a sL1n sL1c sEpoch2 who3 R w) : Calls Try.prog 39 #[.agg #[.slice sL1a sL1n sL1c, .int .i64 sEpoch2], .int .i64 who3] w fun e w' => ∃ v, e = .returned v ∧ R v w' := members_State_find.ok sL1a sL1n sL1c sEpoch2 who3 (members_State_find.up sL1a sL1n sL1c sEpoch2 who3 h)
theorem members_State_find.run (sL1a : Option Addr) (sL1n : Nat) (sL1c : Nat) (sEpoch2 : Int) (who3 : Int) {V : Value} {Q : World → Prop} {w : World} (h : members_State_find.N sL1a sL1n sL1c sEpoch2 who3 (fun v w' => v = V ∧ Q w') w) : Calls Try.prog 39 #[.agg #[.slice sL1a sL1n sL1c, .int .i64 sEpoch2], .int .i64 who3] w (Ret V Q) := (members_State_find.go sL1a sL1n sL1c sEpoch2 who3 h).mono fun e w' ⟨v, he, hv, hq⟩ => ⟨by rw [he, hv], hq⟩

/-- (members.State).find$1 -/
def members_State_find_1.M (mWho1 : Int) (mPublic2 : Int) (mFrom3 : Int) (mTo4 : Int) (mLimit5 : Int) (wv6 : Int) (R : Value → World → Prop) (w : World) : Prop :=
  thenW (w.alloc (.cells #[.int .i64 mWho1, .int .u64 mPublic2, .int .i64 mFrom3, .int .i64 mTo4, .int .i64 mLimit5] 49)) fun ww7 =>
  ∃ (Who8 : Int), ww7.cell? ((blk w.heap.size).add 0) = some (.int .i64 Who8) ∧
  Calls Try.prog 63 #[.int .i64 Who8, .int .i64 wv6] ww7 fun ee10 ww11 => ∃ (compare9 : Int), ee10 = .returned (.int .i64 compare9) ∧
  R (.int .i64 compare9) ww11

theorem members_State_find_1.eq (mWho1 : Int) (mPublic2 : Int) (mFrom3 : Int) (mTo4 : Int) (mLimit5 : Int) (wv6 : Int) (R : Value → World → Prop) (w : World) : mfunc Try.prog [] 62 [.agg #[.int .i64 mWho1, .int .u64 mPublic2, .int .i64 mFrom3, .int .i64 mTo4, .int .i64 mLimit5], .int .i64 wv6] R w = members_State_find_1.M mWho1 mPublic2 mFrom3 mTo4 mLimit5 wv6 R w := by kernel_rfl
theorem members_State_find_1.ok (mWho1 : Int) (mPublic2 : Int) (mFrom3 : Int) (mTo4 : Int) (mLimit5 : Int) (wv6 : Int) {R : Value → World → Prop} {w : World} (h : members_State_find_1.M mWho1 mPublic2 mFrom3 mTo4 mLimit5 wv6 R w) : Calls Try.prog 62 #[.agg #[.int .i64 mWho1, .int .u64 mPublic2, .int .i64 mFrom3, .int .i64 mTo4, .int .i64 mLimit5], .int .i64 wv6] w fun e w' => ∃ v, e = .returned v ∧ R v w' :=
  mfunc_ok follows (H := []) (args := [.agg #[.int .i64 mWho1, .int .u64 mPublic2, .int .i64 mFrom3, .int .i64 mTo4, .int .i64 mLimit5], .int .i64 wv6]) (by rw [members_State_find_1.eq]; exact h)

def members_State_find_1.N (mWho1 : Int) (mPublic2 : Int) (mFrom3 : Int) (mTo4 : Int) (mLimit5 : Int) (wv6 : Int) (R : Value → World → Prop) (w : World) : Prop :=
  ∀ (ww8 : World), Ext no w ww8 →
  R (.int .i64 (cmp_Compare_int.F mWho1 wv6)) ww8

theorem members_State_find_1.up (mWho1 : Int) (mPublic2 : Int) (mFrom3 : Int) (mTo4 : Int) (mLimit5 : Int) (wv6 : Int) {R : Value → World → Prop} {w : World} (h : members_State_find_1.N mWho1 mPublic2 mFrom3 mTo4 mLimit5 wv6 R w) : members_State_find_1.M mWho1 mPublic2 mFrom3 mTo4 mLimit5 wv6 R w := by
  unfold members_State_find_1.M
  unfold members_State_find_1.N at h
  refine thenW_in fun ww7 e7 => ?_
  have hb1 := Blk.of_new e7
  have hg1 := ((Ext.refl no w)).size
  have hx7 := (Ext.refl no w).x_alloc e7
  refine ⟨mWho1, hb1.celli 0 rfl rfl, ?_⟩
  refine (cmp_Compare_int.pure mWho1 wv6).mono fun ee ww8 ⟨he, hxx⟩ => ⟨(cmp_Compare_int.F mWho1 wv6), he, ?_⟩
  have hx8 := hx7.trans hxx
  have h := h ww8 hx8
  exact h

theorem members_State_find_1.go (mWho1 : Int) (mPublic2 : Int) (mFrom3 : Int) (mTo4 : Int) (mLimit5 : Int) (wv6 : Int) {R : Value → World → Prop} {w : World} (h : members_State_find_1.N mWho1 mPublic2 mFrom3 mTo4 mLimit5 wv6 R w) : Calls Try.prog 62 #[.agg #[.int .i64 mWho1, .int .u64 mPublic2, .int .i64 mFrom3, .int .i64 mTo4, .int .i64 mLimit5], .int .i64 wv6] w fun e w' => ∃ v, e = .returned v ∧ R v w' := members_State_find_1.ok mWho1 mPublic2 mFrom3 mTo4 mLimit5 wv6 (members_State_find_1.up mWho1 mPublic2 mFrom3 mTo4 mLimit5 wv6 h)
theorem members_State_find_1.run (mWho1 : Int) (mPublic2 : Int) (mFrom3 : Int) (mTo4 : Int) (mLimit5 : Int) (wv6 : Int) {V : Value} {Q : World → Prop} {w : World} (h : members_State_find_1.N mWho1 mPublic2 mFrom3 mTo4 mLimit5 wv6 (fun v w' => v = V ∧ Q w') w) : Calls Try.prog 62 #[.agg #[.int .i64 mWho1, .int .u64 mPublic2, .int .i64 mFrom3, .int .i64 mTo4, .int .i64 mLimit5], .int .i64 wv6] w (Ret V Q) := (members_State_find_1.go mWho1 mPublic2 mFrom3 mTo4 mLimit5 wv6 h).mono fun e w' ⟨v, he, hv, hq⟩ => ⟨by rw [he, hv], hq⟩

/-- (members.State).begin$1 -/
def members_State_begin_1.M (mWho1 : Int) (mPublic2 : Int) (mFrom3 : Int) (mTo4 : Int) (mLimit5 : Int) (wWho6 : Int) (wB7a : Option Addr) (wB7n : Nat) (wB7c : Nat) (R : Value → World → Prop) (w : World) : Prop :=
  thenW (w.alloc (.cells #[.int .i64 mWho1, .int .u64 mPublic2, .int .i64 mFrom3, .int .i64 mTo4, .int .i64 mLimit5] 49)) fun ww8 =>
  thenW (ww8.alloc (.cells #[.int .i64 wWho6, .slice wB7a wB7n wB7c] 85)) fun ww9 =>
  ∃ (Who10 : Int), ww9.cell? ((blk w.heap.size).add 0) = some (.int .i64 Who10) ∧
  ∃ (Who11 : Int), ww9.cell? ((blk ww8.heap.size).add 0) = some (.int .i64 Who11) ∧
  R (.bool (Who10 == Who11)) ww9

theorem members_State_begin_1.eq (mWho1 : Int) (mPublic2 : Int) (mFrom3 : Int) (mTo4 : Int) (mLimit5 : Int) (wWho6 : Int) (wB7a : Option Addr) (wB7n : Nat) (wB7c : Nat) (R : Value → World → Prop) (w : World) : mfunc Try.prog [] 58 [.agg #[.int .i64 mWho1, .int .u64 mPublic2, .int .i64 mFrom3, .int .i64 mTo4, .int .i64 mLimit5], .agg #[.int .i64 wWho6, .slice wB7a wB7n wB7c]] R w = members_State_begin_1.M mWho1 mPublic2 mFrom3 mTo4 mLimit5 wWho6 wB7a wB7n wB7c R w := by kernel_rfl
theorem members_State_begin_1.ok (mWho1 : Int) (mPublic2 : Int) (mFrom3 : Int) (mTo4 : Int) (mLimit5 : Int) (wWho6 : Int) (wB7a : Option Addr) (wB7n : Nat) (wB7c : Nat) {R : Value → World → Prop} {w : World} (h : members_State_begin_1.M mWho1 mPublic2 mFrom3 mTo4 mLimit5 wWho6 wB7a wB7n wB7c R w) : Calls Try.prog 58 #[.agg #[.int .i64 mWho1, .int .u64 mPublic2, .int .i64 mFrom3, .int .i64 mTo4, .int .i64 mLimit5], .agg #[.int .i64 wWho6, .slice wB7a wB7n wB7c]] w fun e w' => ∃ v, e = .returned v ∧ R v w' :=
  mfunc_ok follows (H := []) (args := [.agg #[.int .i64 mWho1, .int .u64 mPublic2, .int .i64 mFrom3, .int .i64 mTo4, .int .i64 mLimit5], .agg #[.int .i64 wWho6, .slice wB7a wB7n wB7c]]) (by rw [members_State_begin_1.eq]; exact h)

def members_State_begin_1.N (mWho1 : Int) (mPublic2 : Int) (mFrom3 : Int) (mTo4 : Int) (mLimit5 : Int) (wWho6 : Int) (wB7a : Option Addr) (wB7n : Nat) (wB7c : Nat) (R : Value → World → Prop) (w : World) : Prop :=
  ∀ (ww9 : World), Ext no w ww9 →
  R (.bool (mWho1 == wWho6)) ww9

theorem members_State_begin_1.up (mWho1 : Int) (mPublic2 : Int) (mFrom3 : Int) (mTo4 : Int) (mLimit5 : Int) (wWho6 : Int) (wB7a : Option Addr) (wB7n : Nat) (wB7c : Nat) {R : Value → World → Prop} {w : World} (h : members_State_begin_1.N mWho1 mPublic2 mFrom3 mTo4 mLimit5 wWho6 wB7a wB7n wB7c R w) : members_State_begin_1.M mWho1 mPublic2 mFrom3 mTo4 mLimit5 wWho6 wB7a wB7n wB7c R w := by
  unfold members_State_begin_1.M
  unfold members_State_begin_1.N at h
  refine thenW_in fun ww8 e8 => ?_
  have hb1 := Blk.of_new e8
  have hg1 := ((Ext.refl no w)).size
  have hx8 := (Ext.refl no w).x_alloc e8
  refine thenW_in fun ww9 e9 => ?_
  have hb2 := Blk.of_new e9
  have hg2 := (hx8).size
  have hb1_2 := Nat.ne_of_lt hb1.lt
  have hb1 := hb1.x_alloc e9
  have hx9 := hx8.x_alloc e9
  refine ⟨mWho1, hb1.celli 0 rfl rfl, ?_⟩
  refine ⟨wWho6, hb2.celli 0 rfl rfl, ?_⟩
  have h := h ww9 hx9
  exact h

theorem members_State_begin_1.go (mWho1 : Int) (mPublic2 : Int) (mFrom3 : Int) (mTo4 : Int) (mLimit5 : Int) (wWho6 : Int) (wB7a : Option Addr) (wB7n : Nat) (wB7c : Nat) {R : Value → World → Prop} {w : World} (h : members_State_begin_1.N mWho1 mPublic2 mFrom3 mTo4 mLimit5 wWho6 wB7a wB7n wB7c R w) : Calls Try.prog 58 #[.agg #[.int .i64 mWho1, .int .u64 mPublic2, .int .i64 mFrom3, .int .i64 mTo4, .int .i64 mLimit5], .agg #[.int .i64 wWho6, .slice wB7a wB7n wB7c]] w fun e w' => ∃ v, e = .returned v ∧ R v w' := members_State_begin_1.ok mWho1 mPublic2 mFrom3 mTo4 mLimit5 wWho6 wB7a wB7n wB7c (members_State_begin_1.up mWho1 mPublic2 mFrom3 mTo4 mLimit5 wWho6 wB7a wB7n wB7c h)
theorem members_State_begin_1.run (mWho1 : Int) (mPublic2 : Int) (mFrom3 : Int) (mTo4 : Int) (mLimit5 : Int) (wWho6 : Int) (wB7a : Option Addr) (wB7n : Nat) (wB7c : Nat) {V : Value} {Q : World → Prop} {w : World} (h : members_State_begin_1.N mWho1 mPublic2 mFrom3 mTo4 mLimit5 wWho6 wB7a wB7n wB7c (fun v w' => v = V ∧ Q w') w) : Calls Try.prog 58 #[.agg #[.int .i64 mWho1, .int .u64 mPublic2, .int .i64 mFrom3, .int .i64 mTo4, .int .i64 mLimit5], .agg #[.int .i64 wWho6, .slice wB7a wB7n wB7c]] w (Ret V Q) := (members_State_begin_1.go mWho1 mPublic2 mFrom3 mTo4 mLimit5 wWho6 wB7a wB7n wB7c h).mono fun e w' ⟨v, he, hv, hq⟩ => ⟨by rw [he, hv], hq⟩

/-- (members.State).invite -/
def members_State_invite.M (sL1a : Option Addr) (sL1n : Nat) (sL1c : Nat) (sEpoch2 : Int) (cKind3 : Int) (cWho4 : Int) (cPublic5 : Int) (cLimit6 : Int) (cWraps7a : Option Addr) (cWraps7n : Nat) (cWraps7c : Nat) (cOld8a : Option Addr) (cOld8n : Nat) (cOld8c : Nat) (R : Value → World → Prop) (w : World) : Prop :=
  thenW (w.alloc (.cells #[.slice sL1a sL1n sL1c, .int .i64 sEpoch2] 28)) fun ww9 =>
  thenW (ww9.alloc (.cells #[.int .i64 cKind3, .int .i64 cWho4, .int .u64 cPublic5, .int .i64 cLimit6, .slice cWraps7a cWraps7n cWraps7c, .slice cOld8a cOld8n cOld8c] 36)) fun ww10 =>
  thenW (ww10.alloc (.cells #[.slice none 0 0, .int .i64 0] 28)) fun ww11 =>
  ∃ (xL12a : Option Addr) (xL12n : Nat) (xL12c : Nat) (xEpoch13 : Int), cellsAt ww11 (blk w.heap.size) [.slice xL12a xL12n xL12c, .int .i64 xEpoch13] 0 ∧
  ∃ (Who14 : Int), ww11.cell? ((blk ww9.heap.size).add 1) = some (.int .i64 Who14) ∧
  Calls Try.prog 39 #[.agg #[.slice xL12a xL12n xL12c, .int .i64 xEpoch13], .int .i64 Who14] ww11 fun ee17 ww18 => ∃ (find15 : Int) (find16 : Bool), ee17 = .returned (.tuple #[.int .i64 find15, .bool find16]) ∧
  bif find16 then (
  canStore ww18 ((blk ww10.heap.size).add 0) ∧
  thenW (ww18.setCell ((blk ww10.heap.size).add 0) (.slice none 0 0)) fun ww19 =>
  canStore ww19 ((blk ww10.heap.size).add 1) ∧
  thenW (ww19.setCell ((blk ww10.heap.size).add 1) (.int .i64 0)) fun ww20 =>
  ∃ (resL21a : Option Addr) (resL21n : Nat) (resL21c : Nat) (resEpoch22 : Int), cellsAt ww20 (blk ww10.heap.size) [.slice resL21a resL21n resL21c, .int .i64 resEpoch22] 0 ∧
  R (.tuple #[.agg #[.slice resL21a resL21n resL21c, .int .i64 resEpoch22], .int .i64 13]) ww20) else (
  thenW (ww18.drew) fun ww23 =>
  ∃ (L24a : Option Addr) (L24n : Nat) (L24c : Nat), ww23.cell? ((blk w.heap.size).add 0) = some (.slice L24a L24n L24c) ∧
  ∃ (Who25 : Int), ww23.cell? ((blk ww9.heap.size).add 1) = some (.int .i64 Who25) ∧
  ∃ (Public26 : Int), ww23.cell? ((blk ww9.heap.size).add 2) = some (.int .u64 Public26) ∧
  ∃ (Epoch27 : Int), ww23.cell? ((blk w.heap.size).add 1) = some (.int .i64 Epoch27) ∧
  (Calls Try.prog 59 #[.slice L24a L24n L24c] ww23 fun ee29 ww30 => ∃ (clone28a : Option Addr) (clone28n : Nat) (clone28c : Nat), ee29 = .returned (.slice clone28a clone28n clone28c) ∧
  ww30.cell? ((blk w.heap.size).add 1) = some (.int .i64 Epoch27) ∧
  ww30.cell? ((blk ww9.heap.size).add 2) = some (.int .u64 Public26) ∧
  ww30.cell? ((blk ww9.heap.size).add 1) = some (.int .i64 Who25) ∧
  thenW (ww30.alloc (.cells #[.int .i64 Who25, .int .u64 Public26, .int .i64 (IntKind.i64.wrap (Epoch27 + 1)), .int .i64 (-1), .int .i64 0] 49)) fun ww31 =>
  Calls Try.prog 60 #[.slice clone28a clone28n clone28c, .int .i64 find15, .slice (some (blk ww30.heap.size)) 1 1] ww31 fun ee33 ww34 => ∃ (insert32a : Option Addr) (insert32n : Nat) (insert32c : Nat), ee33 = .returned (.slice insert32a insert32n insert32c) ∧
  canStore ww34 (((blk w.heap.size).add 0).add 0) ∧
  thenW (ww34.setCell (((blk w.heap.size).add 0).add 0) (.slice insert32a insert32n insert32c)) fun ww35 =>
  ∃ (xL36a : Option Addr) (xL36n : Nat) (xL36c : Nat) (xEpoch37 : Int), cellsAt ww35 (blk w.heap.size) [.slice xL36a xL36n xL36c, .int .i64 xEpoch37] 0 ∧
  canStore ww35 ((blk ww10.heap.size).add 0) ∧
  thenW (ww35.setCell ((blk ww10.heap.size).add 0) (.slice xL36a xL36n xL36c)) fun ww38 =>
  canStore ww38 ((blk ww10.heap.size).add 1) ∧
  thenW (ww38.setCell ((blk ww10.heap.size).add 1) (.int .i64 xEpoch37)) fun ww39 =>
  ∃ (resL40a : Option Addr) (resL40n : Nat) (resL40c : Nat) (resEpoch41 : Int), cellsAt ww39 (blk ww10.heap.size) [.slice resL40a resL40n resL40c, .int .i64 resEpoch41] 0 ∧
  R (.tuple #[.agg #[.slice resL40a resL40n resL40c, .int .i64 resEpoch41], .int .i64 0]) ww39) ∧
  (thenW (ww23.alloc (.cells #[.int .i64 Who25, .int .u64 Public26, .int .i64 (IntKind.i64.wrap (Epoch27 + 1)), .int .i64 (-1), .int .i64 0] 49)) fun ww42 =>
  ww42.cell? ((blk w.heap.size).add 0) = some (.slice L24a L24n L24c) ∧
  Calls Try.prog 59 #[.slice L24a L24n L24c] ww42 fun ee44 ww45 => ∃ (clone43a : Option Addr) (clone43n : Nat) (clone43c : Nat), ee44 = .returned (.slice clone43a clone43n clone43c) ∧
  Calls Try.prog 60 #[.slice clone43a clone43n clone43c, .int .i64 find15, .slice (some (blk ww23.heap.size)) 1 1] ww45 fun ee47 ww48 => ∃ (insert46a : Option Addr) (insert46n : Nat) (insert46c : Nat), ee47 = .returned (.slice insert46a insert46n insert46c) ∧
  canStore ww48 (((blk w.heap.size).add 0).add 0) ∧
  thenW (ww48.setCell (((blk w.heap.size).add 0).add 0) (.slice insert46a insert46n insert46c)) fun ww49 =>
  ∃ (xL50a : Option Addr) (xL50n : Nat) (xL50c : Nat) (xEpoch51 : Int), cellsAt ww49 (blk w.heap.size) [.slice xL50a xL50n xL50c, .int .i64 xEpoch51] 0 ∧
  canStore ww49 ((blk ww10.heap.size).add 0) ∧
  thenW (ww49.setCell ((blk ww10.heap.size).add 0) (.slice xL50a xL50n xL50c)) fun ww52 =>
  canStore ww52 ((blk ww10.heap.size).add 1) ∧
  thenW (ww52.setCell ((blk ww10.heap.size).add 1) (.int .i64 xEpoch51)) fun ww53 =>
  ∃ (resL54a : Option Addr) (resL54n : Nat) (resL54c : Nat) (resEpoch55 : Int), cellsAt ww53 (blk ww10.heap.size) [.slice resL54a resL54n resL54c, .int .i64 resEpoch55] 0 ∧
  R (.tuple #[.agg #[.slice resL54a resL54n resL54c, .int .i64 resEpoch55], .int .i64 0]) ww53))

theorem members_State_invite.eq (sL1a : Option Addr) (sL1n : Nat) (sL1c : Nat) (sEpoch2 : Int) (cKind3 : Int) (cWho4 : Int) (cPublic5 : Int) (cLimit6 : Int) (cWraps7a : Option Addr) (cWraps7n : Nat) (cWraps7c : Nat) (cOld8a : Option Addr) (cOld8n : Nat) (cOld8c : Nat) (R : Value → World → Prop) (w : World) : mfunc Try.prog [] 37 [.agg #[.slice sL1a sL1n sL1c, .int .i64 sEpoch2], .agg #[.int .i64 cKind3, .int .i64 cWho4, .int .u64 cPublic5, .int .i64 cLimit6, .slice cWraps7a cWraps7n cWraps7c, .slice cOld8a cOld8n cOld8c]] R w = members_State_invite.M sL1a sL1n sL1c sEpoch2 cKind3 cWho4 cPublic5 cLimit6 cWraps7a cWraps7n cWraps7c cOld8a cOld8n cOld8c R w := by kernel_rfl
theorem members_State_invite.ok (sL1a : Option Addr) (sL1n : Nat) (sL1c : Nat) (sEpoch2 : Int) (cKind3 : Int) (cWho4 : Int) (cPublic5 : Int) (cLimit6 : Int) (cWraps7a : Option Addr) (cWraps7n : Nat) (cWraps7c : Nat) (cOld8a : Option Addr) (cOld8n : Nat) (cOld8c : Nat) {R : Value → World → Prop} {w : World} (h : members_State_invite.M sL1a sL1n sL1c sEpoch2 cKind3 cWho4 cPublic5 cLimit6 cWraps7a cWraps7n cWraps7c cOld8a cOld8n cOld8c R w) : Calls Try.prog 37 #[.agg #[.slice sL1a sL1n sL1c, .int .i64 sEpoch2], .agg #[.int .i64 cKind3, .int .i64 cWho4, .int .u64 cPublic5, .int .i64 cLimit6, .slice cWraps7a cWraps7n cWraps7c, .slice cOld8a cOld8n cOld8c]] w fun e w' => ∃ v, e = .returned v ∧ R v w' :=
  mfunc_ok follows (H := []) (args := [.agg #[.slice sL1a sL1n sL1c, .int .i64 sEpoch2], .agg #[.int .i64 cKind3, .int .i64 cWho4, .int .u64 cPublic5, .int .i64 cLimit6, .slice cWraps7a cWraps7n cWraps7c, .slice cOld8a cOld8n cOld8c]]) (by rw [members_State_invite.eq]; exact h)

def members_State_invite.N (sL1a : Option Addr) (sL1n : Nat) (sL1c : Nat) (sEpoch2 : Int) (cKind3 : Int) (cWho4 : Int) (cPublic5 : Int) (cLimit6 : Int) (cWraps7a : Option Addr) (cWraps7n : Nat) (cWraps7c : Nat) (cOld8a : Option Addr) (cOld8n : Nat) (cOld8c : Nat) (R : Value → World → Prop) (w : World) : Prop :=
  ∀ (ww11 : World) (p12 : Nat) (p13 : Nat) (p14 : Nat), Ext no w ww11 → Priv w ww11 [p12, p13, p14] →
  Calls Try.prog 39 #[.agg #[.slice sL1a sL1n sL1c, .int .i64 sEpoch2], .int .i64 cWho4] ww11 fun ee17 ww18 => ∃ (find15 : Int) (find16 : Bool), ee17 = .returned (.tuple #[.int .i64 find15, .bool find16]) ∧
  Keep [p12, p13, p14] ww11 ww18 ∧
  (find16 = true →
    ∀ (ww21 : World), Ext (fun b => b = p14) ww18 ww21 →
    R (.tuple #[.agg #[.slice none 0 0, .int .i64 0], .int .i64 13]) ww21) ∧
  (find16 = false →
    (-9223372036854775808 : Int) ≤ (sEpoch2 + 1) ∧ (sEpoch2 + 1) < 9223372036854775808 ∧
    (∀ (ww22 : World), Ext no ww18 ww22 →
    Calls Try.prog 59 #[.slice sL1a sL1n sL1c] ww22 fun ee24 ww25 => ∃ (clone23a : Option Addr) (clone23n : Nat) (clone23c : Nat), ee24 = .returned (.slice clone23a clone23n clone23c) ∧
    Keep [p12, p13, p14] ww22 ww25 ∧
    ∀ (ww26 : World) (q27 : Nat), Ext no ww25 ww26 → Blk ww26 q27 49 [.int .i64 cWho4, .int .u64 cPublic5, .int .i64 (sEpoch2 + 1), .int .i64 (-1), .int .i64 0] → ww25.heap.size ≤ q27 → q27 < ww26.heap.size →
    Calls Try.prog 60 #[.slice clone23a clone23n clone23c, .int .i64 find15, .slice (some (blk q27)) 1 1] ww26 fun ee29 ww30 => ∃ (insert28a : Option Addr) (insert28n : Nat) (insert28c : Nat), ee29 = .returned (.slice insert28a insert28n insert28c) ∧
    Keep [p12, p14] ww26 ww30 ∧
    ∀ (ww33 : World), Ext (fun b => b = p14 ∨ b = p12) ww30 ww33 →
    R (.tuple #[.agg #[.slice insert28a insert28n insert28c, .int .i64 sEpoch2], .int .i64 0]) ww33) ∧
    (∀ (ww23 : World) (q24 : Nat), Ext no ww18 ww23 → Blk ww23 q24 49 [.int .i64 cWho4, .int .u64 cPublic5, .int .i64 (sEpoch2 + 1), .int .i64 (-1), .int .i64 0] → ww18.heap.size ≤ q24 → q24 < ww23.heap.size →
    Calls Try.prog 59 #[.slice sL1a sL1n sL1c] ww23 fun ee26 ww27 => ∃ (clone25a : Option Addr) (clone25n : Nat) (clone25c : Nat), ee26 = .returned (.slice clone25a clone25n clone25c) ∧
    Keep [p12, p14] ww23 ww27 ∧
    Calls Try.prog 60 #[.slice clone25a clone25n clone25c, .int .i64 find15, .slice (some (blk q24)) 1 1] ww27 fun ee29 ww30 => ∃ (insert28a : Option Addr) (insert28n : Nat) (insert28c : Nat), ee29 = .returned (.slice insert28a insert28n insert28c) ∧
    Keep [p12, p14] ww27 ww30 ∧
    ∀ (ww33 : World), Ext (fun b => b = p14 ∨ b = p12) ww30 ww33 →
    R (.tuple #[.agg #[.slice insert28a insert28n insert28c, .int .i64 sEpoch2], .int .i64 0]) ww33))

theorem members_State_invite.up (sL1a : Option Addr) (sL1n : Nat) (sL1c : Nat) (sEpoch2 : Int) (cKind3 : Int) (cWho4 : Int) (cPublic5 : Int) (cLimit6 : Int) (cWraps7a : Option Addr) (cWraps7n : Nat) (cWraps7c : Nat) (cOld8a : Option Addr) (cOld8n : Nat) (cOld8c : Nat) {R : Value → World → Prop} {w : World} (h : members_State_invite.N sL1a sL1n sL1c sEpoch2 cKind3 cWho4 cPublic5 cLimit6 cWraps7a cWraps7n cWraps7c cOld8a cOld8n cOld8c R w) : members_State_invite.M sL1a sL1n sL1c sEpoch2 cKind3 cWho4 cPublic5 cLimit6 cWraps7a cWraps7n cWraps7c cOld8a cOld8n cOld8c R w := by
  unfold members_State_invite.M
  unfold members_State_invite.N at h
  refine thenW_in fun ww9 e9 => ?_
  have hb1 := Blk.of_new e9
  have hg1 := ((Ext.refl no w)).size
  have hx9 := (Ext.refl no w).x_alloc e9
  refine thenW_in fun ww10 e10 => ?_
  have hb2 := Blk.of_new e10
  have hg2 := (hx9).size
  have hb1_2 := Nat.ne_of_lt hb1.lt
  have hb1 := hb1.x_alloc e10
  have hx10 := hx9.x_alloc e10
  refine thenW_in fun ww11 e11 => ?_
  have hb3 := Blk.of_new e11
  have hg3 := (hx10).size
  have hb1_3 := Nat.ne_of_lt hb1.lt
  have hb1 := hb1.x_alloc e11
  have hb2_3 := Nat.ne_of_lt hb2.lt
  have hb2 := hb2.x_alloc e11
  have hx11 := hx10.x_alloc e11
  refine ⟨sL1a, sL1n, sL1c, sEpoch2, ⟨hb1.celli 0 rfl rfl, hb1.celli 1 rfl rfl, trivial⟩, ?_⟩
  refine ⟨cWho4, hb2.celli 1 rfl rfl, ?_⟩
  have h := h ww11 (w.heap.size) (ww9.heap.size) (ww10.heap.size) hx11 (Priv.cons hg1 hb1.lt (Priv.cons hg2 hb2.lt (Priv.cons hg3 hb3.lt Priv.nil)))
  refine h.mono fun ee17 ww18 h => ?_
  obtain ⟨find15, find16, he, hk, h⟩ := h
  refine ⟨find15, find16, he, ?_⟩
  have hb1 := hk.blk hb1 (by simp)
  have hb2 := hk.blk hb2 (by simp)
  have hb3 := hk.blk hb3 (by simp)
  refine bif_of (fun c19 => ?_) (fun c19 => ?_)
  · have h := h.1 c19
    have hm21 : Ext (fun b => b = ww10.heap.size) ww18 ww18 := ((Ext.refl no ww18)).none
    refine ⟨hb3.cani 0 rfl rfl, thenW_in fun ww20 e20 => ?_⟩
    have hx20 := hm21.x_set (q := ww10.heap.size) (i := 0) rfl (.inl rfl) e20
    have hb3 := hb3.seti 0 rfl e20
    refine ⟨hb3.cani 1 rfl rfl, thenW_in fun ww21 e21 => ?_⟩
    have hx21 := hx20.x_set (q := ww10.heap.size) (i := 1) rfl (.inl rfl) e21
    have hb3 := hb3.seti 1 rfl e21
    refine ⟨none, 0, 0, 0, ⟨hb3.celli 0 rfl rfl, hb3.celli 1 rfl rfl, trivial⟩, ?_⟩
    have h := h ww21 hx21
    exact h
  · have h := h.2 c19
    refine thenW_in fun ww22 e22 => ?_
    have hx22 := (Ext.refl no ww18).x_drew e22
    have hb1 := hb1.x_drew e22
    have hb2 := hb2.x_drew e22
    have hb3 := hb3.x_drew e22
    refine ⟨sL1a, sL1n, sL1c, hb1.celli 0 rfl rfl, ?_⟩
    refine ⟨cWho4, hb2.celli 1 rfl rfl, ?_⟩
    refine ⟨cPublic5, hb2.celli 2 rfl rfl, ?_⟩
    refine ⟨sEpoch2, hb1.celli 1 rfl rfl, ?_⟩
    obtain ⟨hw1, hw2, h⟩ := h
    try rw [w64 hw1 hw2]
    obtain ⟨h0', h1'⟩ := h
    refine ⟨?_, ?_⟩
    · have h := h0'
      have h := h ww22 hx22
      refine h.mono fun ee24 ww25 h => ?_
      obtain ⟨clone23a, clone23n, clone23c, he, hk, h⟩ := h
      refine ⟨clone23a, clone23n, clone23c, he, ?_⟩
      have hb1 := hk.blk hb1 (by simp)
      have hb2 := hk.blk hb2 (by simp)
      have hb3 := hk.blk hb3 (by simp)
      refine ⟨hb1.celli 1 rfl rfl, hb2.celli 2 rfl rfl, hb2.celli 1 rfl rfl, ?_⟩
      refine thenW_in fun ww26 e26 => ?_
      have hb1 := hb1.x_alloc e26
      have hb3 := hb3.x_alloc e26
      have h := h ww26 ww25.heap.size ((Ext.refl no ww25).x_alloc e26) (Blk.of_new e26) ((Ext.refl no ww25)).size (size_lt_alloc e26)
      refine h.mono fun ee29 ww30 h => ?_
      obtain ⟨insert28a, insert28n, insert28c, he, hk, h⟩ := h
      refine ⟨insert28a, insert28n, insert28c, he, ?_⟩
      have hb1 := hk.blk hb1 (by simp)
      have hb3 := hk.blk hb3 (by simp)
      have hm31 : Ext (fun b => b = w.heap.size) ww30 ww30 := ((Ext.refl no ww30)).none
      refine ⟨hb1.cani 0 rfl rfl, thenW_in fun ww31 e31 => ?_⟩
      have hx31 := hm31.x_set (q := w.heap.size) (i := 0) rfl (.inl rfl) e31
      have hb1 := hb1.seti 0 rfl e31
      have hb3 := hb3.oth (q := w.heap.size) (i := 0) rfl (Ne.symm hb1_3) e31
      refine ⟨insert28a, insert28n, insert28c, sEpoch2, ⟨hb1.celli 0 rfl rfl, hb1.celli 1 rfl rfl, trivial⟩, ?_⟩
      have hm33 : Ext (fun b => b = ww10.heap.size ∨ b = w.heap.size) ww30 ww31 := (hx31).mono fun _ h _ => .inr h
      refine ⟨hb3.cani 0 rfl rfl, thenW_in fun ww32 e32 => ?_⟩
      have hx32 := hm33.x_set (q := ww10.heap.size) (i := 0) rfl (.inl (.inl rfl)) e32
      have hb3 := hb3.seti 0 rfl e32
      refine ⟨hb3.cani 1 rfl rfl, thenW_in fun ww33 e33 => ?_⟩
      have hx33 := hx32.x_set (q := ww10.heap.size) (i := 1) rfl (.inl (.inl rfl)) e33
      have hb3 := hb3.seti 1 rfl e33
      refine ⟨insert28a, insert28n, insert28c, sEpoch2, ⟨hb3.celli 0 rfl rfl, hb3.celli 1 rfl rfl, trivial⟩, ?_⟩
      have h := h ww33 hx33
      exact h
    · have h := h1'
      refine thenW_in fun ww23 e23 => ?_
      have hb1 := hb1.x_alloc e23
      have hb3 := hb3.x_alloc e23
      have h := h ww23 ww22.heap.size (hx22.x_alloc e23) (Blk.of_new e23) (hx22).size (size_lt_alloc e23)
      refine ⟨hb1.celli 0 rfl rfl, ?_⟩
      refine h.mono fun ee26 ww27 h => ?_
      obtain ⟨clone25a, clone25n, clone25c, he, hk, h⟩ := h
      refine ⟨clone25a, clone25n, clone25c, he, ?_⟩
      have hb1 := hk.blk hb1 (by simp)
      have hb3 := hk.blk hb3 (by simp)
      refine h.mono fun ee29 ww30 h => ?_
      obtain ⟨insert28a, insert28n, insert28c, he, hk, h⟩ := h
      refine ⟨insert28a, insert28n, insert28c, he, ?_⟩
      have hb1 := hk.blk hb1 (by simp)
      have hb3 := hk.blk hb3 (by simp)
      have hm31 : Ext (fun b => b = w.heap.size) ww30 ww30 := ((Ext.refl no ww30)).none
      refine ⟨hb1.cani 0 rfl rfl, thenW_in fun ww31 e31 => ?_⟩
      have hx31 := hm31.x_set (q := w.heap.size) (i := 0) rfl (.inl rfl) e31
      have hb1 := hb1.seti 0 rfl e31
      have hb3 := hb3.oth (q := w.heap.size) (i := 0) rfl (Ne.symm hb1_3) e31
      refine ⟨insert28a, insert28n, insert28c, sEpoch2, ⟨hb1.celli 0 rfl rfl, hb1.celli 1 rfl rfl, trivial⟩, ?_⟩
      have hm33 : Ext (fun b => b = ww10.heap.size ∨ b = w.heap.size) ww30 ww31 := (hx31).mono fun _ h _ => .inr h
      refine ⟨hb3.cani 0 rfl rfl, thenW_in fun ww32 e32 => ?_⟩
      have hx32 := hm33.x_set (q := ww10.heap.size) (i := 0) rfl (.inl (.inl rfl)) e32
      have hb3 := hb3.seti 0 rfl e32
      refine ⟨hb3.cani 1 rfl rfl, thenW_in fun ww33 e33 => ?_⟩
      have hx33 := hx32.x_set (q := ww10.heap.size) (i := 1) rfl (.inl (.inl rfl)) e33
      have hb3 := hb3.seti 1 rfl e33
      refine ⟨insert28a, insert28n, insert28c, sEpoch2, ⟨hb3.celli 0 rfl rfl, hb3.celli 1 rfl rfl, trivial⟩, ?_⟩
      have h := h ww33 hx33
      exact h

theorem members_State_invite.go (sL1a : Option Addr) (sL1n : Nat) (sL1c : Nat) (sEpoch2 : Int) (cKind3 : Int) (cWho4 : Int) (cPublic5 : Int) (cLimit6 : Int) (cWraps7a : Option Addr) (cWraps7n : Nat) (cWraps7c : Nat) (cOld8a : Option Addr) (cOld8n : Nat) (cOld8c : Nat) {R : Value → World → Prop} {w : World} (h : members_State_invite.N sL1a sL1n sL1c sEpoch2 cKind3 cWho4 cPublic5 cLimit6 cWraps7a cWraps7n cWraps7c cOld8a cOld8n cOld8c R w) : Calls Try.prog 37 #[.agg #[.slice sL1a sL1n sL1c, .int .i64 sEpoch2], .agg #[.int .i64 cKind3, .int .i64 cWho4, .int .u64 cPublic5, .int .i64 cLimit6, .slice cWraps7a cWraps7n cWraps7c, .slice cOld8a cOld8n cOld8c]] w fun e w' => ∃ v, e = .returned v ∧ R v w' := members_State_invite.ok sL1a sL1n sL1c sEpoch2 cKind3 cWho4 cPublic5 cLimit6 cWraps7a cWraps7n cWraps7c cOld8a cOld8n cOld8c (members_State_invite.up sL1a sL1n sL1c sEpoch2 cKind3 cWho4 cPublic5 cLimit6 cWraps7a cWraps7n cWraps7c cOld8a cOld8n cOld8c h)
theorem members_State_invite.run (sL1a : Option Addr) (sL1n : Nat) (sL1c : Nat) (sEpoch2 : Int) (cKind3 : Int) (cWho4 : Int) (cPublic5 : Int) (cLimit6 : Int) (cWraps7a : Option Addr) (cWraps7n : Nat) (cWraps7c : Nat) (cOld8a : Option Addr) (cOld8n : Nat) (cOld8c : Nat) {V : Value} {Q : World → Prop} {w : World} (h : members_State_invite.N sL1a sL1n sL1c sEpoch2 cKind3 cWho4 cPublic5 cLimit6 cWraps7a cWraps7n cWraps7c cOld8a cOld8n cOld8c (fun v w' => v = V ∧ Q w') w) : Calls Try.prog 37 #[.agg #[.slice sL1a sL1n sL1c, .int .i64 sEpoch2], .agg #[.int .i64 cKind3, .int .i64 cWho4, .int .u64 cPublic5, .int .i64 cLimit6, .slice cWraps7a cWraps7n cWraps7c, .slice cOld8a cOld8n cOld8c]] w (Ret V Q) := (members_State_invite.go sL1a sL1n sL1c sEpoch2 cKind3 cWho4 cPublic5 cLimit6 cWraps7a cWraps7n cWraps7c cOld8a cOld8n cOld8c h).mono fun e w' ⟨v, he, hv, hq⟩ => ⟨by rw [he, hv], hq⟩

/-- (members.State).revoke -/
def members_State_revoke.M (sL1a : Option Addr) (sL1n : Nat) (sL1c : Nat) (sEpoch2 : Int) (cKind3 : Int) (cWho4 : Int) (cPublic5 : Int) (cLimit6 : Int) (cWraps7a : Option Addr) (cWraps7n : Nat) (cWraps7c : Nat) (cOld8a : Option Addr) (cOld8n : Nat) (cOld8c : Nat) (R : Value → World → Prop) (w : World) : Prop :=
  thenW (w.alloc (.cells #[.slice sL1a sL1n sL1c, .int .i64 sEpoch2] 28)) fun ww9 =>
  thenW (ww9.alloc (.cells #[.int .i64 cKind3, .int .i64 cWho4, .int .u64 cPublic5, .int .i64 cLimit6, .slice cWraps7a cWraps7n cWraps7c, .slice cOld8a cOld8n cOld8c] 36)) fun ww10 =>
  thenW (ww10.alloc (.cells #[.slice none 0 0, .int .i64 0] 28)) fun ww11 =>
  ∃ (xL12a : Option Addr) (xL12n : Nat) (xL12c : Nat) (xEpoch13 : Int), cellsAt ww11 (blk w.heap.size) [.slice xL12a xL12n xL12c, .int .i64 xEpoch13] 0 ∧
  ∃ (Who14 : Int), ww11.cell? ((blk ww9.heap.size).add 1) = some (.int .i64 Who14) ∧
  Calls Try.prog 39 #[.agg #[.slice xL12a xL12n xL12c, .int .i64 xEpoch13], .int .i64 Who14] ww11 fun ee17 ww18 => ∃ (find15 : Int) (find16 : Bool), ee17 = .returned (.tuple #[.int .i64 find15, .bool find16]) ∧
  bif !find16 then (
  canStore ww18 ((blk ww10.heap.size).add 0) ∧
  thenW (ww18.setCell ((blk ww10.heap.size).add 0) (.slice none 0 0)) fun ww19 =>
  canStore ww19 ((blk ww10.heap.size).add 1) ∧
  thenW (ww19.setCell ((blk ww10.heap.size).add 1) (.int .i64 0)) fun ww20 =>
  ∃ (resL21a : Option Addr) (resL21n : Nat) (resL21c : Nat) (resEpoch22 : Int), cellsAt ww20 (blk ww10.heap.size) [.slice resL21a resL21n resL21c, .int .i64 resEpoch22] 0 ∧
  R (.tuple #[.agg #[.slice resL21a resL21n resL21c, .int .i64 resEpoch22], .int .i64 20]) ww20) else (
  ∃ (L23a : Option Addr) (L23n : Nat) (L23c : Nat), ww18.cell? ((blk w.heap.size).add 0) = some (.slice L23a L23n L23c) ∧
  L23a.elim False fun a24 =>
  0 ≤ (find15 : Int) ∧ (find15 : Int) < (L23n : Int) ∧
  ∃ (To25 : Int), ww18.cell? ((a24.add (Int.toNat find15 * 5)).add 3) = some (.int .i64 To25) ∧
  bif To25 != (-1) then (
  canStore ww18 ((blk ww10.heap.size).add 0) ∧
  thenW (ww18.setCell ((blk ww10.heap.size).add 0) (.slice none 0 0)) fun ww26 =>
  canStore ww26 ((blk ww10.heap.size).add 1) ∧
  thenW (ww26.setCell ((blk ww10.heap.size).add 1) (.int .i64 0)) fun ww27 =>
  ∃ (resL28a : Option Addr) (resL28n : Nat) (resL28c : Nat) (resEpoch29 : Int), cellsAt ww27 (blk ww10.heap.size) [.slice resL28a resL28n resL28c, .int .i64 resEpoch29] 0 ∧
  R (.tuple #[.agg #[.slice resL28a resL28n resL28c, .int .i64 resEpoch29], .int .i64 10]) ww27) else (
  ∃ (L30a : Option Addr) (L30n : Nat) (L30c : Nat), ww18.cell? ((blk w.heap.size).add 0) = some (.slice L30a L30n L30c) ∧
  Calls Try.prog 59 #[.slice L30a L30n L30c] ww18 fun ee32 ww33 => ∃ (clone31a : Option Addr) (clone31n : Nat) (clone31c : Nat), ee32 = .returned (.slice clone31a clone31n clone31c) ∧
  canStore ww33 (((blk w.heap.size).add 0).add 0) ∧
  thenW (ww33.setCell (((blk w.heap.size).add 0).add 0) (.slice clone31a clone31n clone31c)) fun ww34 =>
  ∃ (L35a : Option Addr) (L35n : Nat) (L35c : Nat), ww34.cell? ((blk w.heap.size).add 0) = some (.slice L35a L35n L35c) ∧
  L35a.elim False fun a36 =>
  0 ≤ (find15 : Int) ∧ (find15 : Int) < (L35n : Int) ∧
  thenW (ww34.drew) fun ww37 =>
  ∃ (Epoch38 : Int), ww37.cell? ((blk w.heap.size).add 1) = some (.int .i64 Epoch38) ∧
  ∃ (Limit39 : Int), ww37.cell? ((blk ww9.heap.size).add 3) = some (.int .i64 Limit39) ∧
  canStore ww37 (((a36.add (Int.toNat find15 * 5)).add 3).add 0) ∧
  thenW (ww37.setCell (((a36.add (Int.toNat find15 * 5)).add 3).add 0) (.int .i64 Epoch38)) fun ww40 =>
  ww40.cell? ((blk ww9.heap.size).add 3) = some (.int .i64 Limit39) ∧
  canStore ww40 (((a36.add (Int.toNat find15 * 5)).add 4).add 0) ∧
  thenW (ww40.setCell (((a36.add (Int.toNat find15 * 5)).add 4).add 0) (.int .i64 Limit39)) fun ww41 =>
  ∃ (Epoch42 : Int), ww41.cell? ((blk w.heap.size).add 1) = some (.int .i64 Epoch42) ∧
  bif decide (Epoch42 < 0) then (
  canStore ww41 (((a36.add (Int.toNat find15 * 5)).add 3).add 0) ∧
  thenW (ww41.setCell (((a36.add (Int.toNat find15 * 5)).add 3).add 0) (.int .i64 (-2))) fun ww43 =>
  ∃ (xL44a : Option Addr) (xL44n : Nat) (xL44c : Nat) (xEpoch45 : Int), cellsAt ww43 (blk w.heap.size) [.slice xL44a xL44n xL44c, .int .i64 xEpoch45] 0 ∧
  canStore ww43 ((blk ww10.heap.size).add 0) ∧
  thenW (ww43.setCell ((blk ww10.heap.size).add 0) (.slice xL44a xL44n xL44c)) fun ww46 =>
  canStore ww46 ((blk ww10.heap.size).add 1) ∧
  thenW (ww46.setCell ((blk ww10.heap.size).add 1) (.int .i64 xEpoch45)) fun ww47 =>
  ∃ (resL48a : Option Addr) (resL48n : Nat) (resL48c : Nat) (resEpoch49 : Int), cellsAt ww47 (blk ww10.heap.size) [.slice resL48a resL48n resL48c, .int .i64 resEpoch49] 0 ∧
  R (.tuple #[.agg #[.slice resL48a resL48n resL48c, .int .i64 resEpoch49], .int .i64 0]) ww47) else (
  ∃ (xL50a : Option Addr) (xL50n : Nat) (xL50c : Nat) (xEpoch51 : Int), cellsAt ww41 (blk w.heap.size) [.slice xL50a xL50n xL50c, .int .i64 xEpoch51] 0 ∧
  canStore ww41 ((blk ww10.heap.size).add 0) ∧
  thenW (ww41.setCell ((blk ww10.heap.size).add 0) (.slice xL50a xL50n xL50c)) fun ww52 =>
  canStore ww52 ((blk ww10.heap.size).add 1) ∧
  thenW (ww52.setCell ((blk ww10.heap.size).add 1) (.int .i64 xEpoch51)) fun ww53 =>
  ∃ (resL54a : Option Addr) (resL54n : Nat) (resL54c : Nat) (resEpoch55 : Int), cellsAt ww53 (blk ww10.heap.size) [.slice resL54a resL54n resL54c, .int .i64 resEpoch55] 0 ∧
  R (.tuple #[.agg #[.slice resL54a resL54n resL54c, .int .i64 resEpoch55], .int .i64 0]) ww53)))

theorem members_State_revoke.eq (sL1a : Option Addr) (sL1n : Nat) (sL1c : Nat) (sEpoch2 : Int) (cKind3 : Int) (cWho4 : Int) (cPublic5 : Int) (cLimit6 : Int) (cWraps7a : Option Addr) (cWraps7n : Nat) (cWraps7c : Nat) (cOld8a : Option Addr) (cOld8n : Nat) (cOld8c : Nat) (R : Value → World → Prop) (w : World) : mfunc Try.prog [] 38 [.agg #[.slice sL1a sL1n sL1c, .int .i64 sEpoch2], .agg #[.int .i64 cKind3, .int .i64 cWho4, .int .u64 cPublic5, .int .i64 cLimit6, .slice cWraps7a cWraps7n cWraps7c, .slice cOld8a cOld8n cOld8c]] R w = members_State_revoke.M sL1a sL1n sL1c sEpoch2 cKind3 cWho4 cPublic5 cLimit6 cWraps7a cWraps7n cWraps7c cOld8a cOld8n cOld8c R w := by kernel_rfl
theorem members_State_revoke.ok (sL1a : Option Addr) (sL1n : Nat) (sL1c : Nat) (sEpoch2 : Int) (cKind3 : Int) (cWho4 : Int) (cPublic5 : Int) (cLimit6 : Int) (cWraps7a : Option Addr) (cWraps7n : Nat) (cWraps7c : Nat) (cOld8a : Option Addr) (cOld8n : Nat) (cOld8c : Nat) {R : Value → World → Prop} {w : World} (h : members_State_revoke.M sL1a sL1n sL1c sEpoch2 cKind3 cWho4 cPublic5 cLimit6 cWraps7a cWraps7n cWraps7c cOld8a cOld8n cOld8c R w) : Calls Try.prog 38 #[.agg #[.slice sL1a sL1n sL1c, .int .i64 sEpoch2], .agg #[.int .i64 cKind3, .int .i64 cWho4, .int .u64 cPublic5, .int .i64 cLimit6, .slice cWraps7a cWraps7n cWraps7c, .slice cOld8a cOld8n cOld8c]] w fun e w' => ∃ v, e = .returned v ∧ R v w' :=
  mfunc_ok follows (H := []) (args := [.agg #[.slice sL1a sL1n sL1c, .int .i64 sEpoch2], .agg #[.int .i64 cKind3, .int .i64 cWho4, .int .u64 cPublic5, .int .i64 cLimit6, .slice cWraps7a cWraps7n cWraps7c, .slice cOld8a cOld8n cOld8c]]) (by rw [members_State_revoke.eq]; exact h)

def members_State_revoke.N (sL1a : Option Addr) (sL1n : Nat) (sL1c : Nat) (sEpoch2 : Int) (cKind3 : Int) (cWho4 : Int) (cPublic5 : Int) (cLimit6 : Int) (cWraps7a : Option Addr) (cWraps7n : Nat) (cWraps7c : Nat) (cOld8a : Option Addr) (cOld8n : Nat) (cOld8c : Nat) (R : Value → World → Prop) (w : World) : Prop :=
  ∀ (ww11 : World) (p12 : Nat) (p13 : Nat) (p14 : Nat), Ext no w ww11 → Priv w ww11 [p12, p13, p14] →
  Calls Try.prog 39 #[.agg #[.slice sL1a sL1n sL1c, .int .i64 sEpoch2], .int .i64 cWho4] ww11 fun ee17 ww18 => ∃ (find15 : Int) (find16 : Bool), ee17 = .returned (.tuple #[.int .i64 find15, .bool find16]) ∧
  Keep [p12, p13, p14] ww11 ww18 ∧
  (find16 = false →
    ∀ (ww21 : World), Ext (fun b => b = p14) ww18 ww21 →
    R (.tuple #[.agg #[.slice none 0 0, .int .i64 0], .int .i64 20]) ww21) ∧
  (find16 = true →
    ∃ a22 : Addr, sL1a = some a22 ∧
    0 ≤ (find15 : Int) ∧ (find15 : Int) < (sL1n : Int) ∧
    ∃ (To24 : Int), ww18.cell? ((a22.add (Int.toNat find15 * 5)).add 3) = some (.int .i64 To24) ∧
    (To24 ≠ (-1) →
      ∀ (ww27 : World), Ext (fun b => b = p14) ww18 ww27 →
      R (.tuple #[.agg #[.slice none 0 0, .int .i64 0], .int .i64 10]) ww27) ∧
    (To24 = (-1) →
      Calls Try.prog 59 #[.slice sL1a sL1n sL1c] ww18 fun ee29 ww30 => ∃ (clone28a : Option Addr) (clone28n : Nat) (clone28c : Nat), ee29 = .returned (.slice clone28a clone28n clone28c) ∧
      Keep [p12, p13, p14] ww18 ww30 ∧
      ∃ a32 : Addr, clone28a = some a32 ∧
      0 ≤ (find15 : Int) ∧ (find15 : Int) < (clone28n : Int) ∧
      ∀ (ww33 : World), Ext (fun b => b = p12) ww30 ww33 →
      canStore ww33 (((a32.add (Int.toNat find15 * 5)).add 3).add 0) ∧
      (∀ p ∈ [p12, p13, p14], p ≠ Addr.block ((a32.add (Int.toNat find15 * 5)).add 3)) ∧
      thenW (ww33.setCell (((a32.add (Int.toNat find15 * 5)).add 3).add 0) (.int .i64 sEpoch2)) fun ww34 =>
      canStore ww34 (((a32.add (Int.toNat find15 * 5)).add 4).add 0) ∧
      (∀ p ∈ [p12, p14], p ≠ Addr.block ((a32.add (Int.toNat find15 * 5)).add 4)) ∧
      thenW (ww34.setCell (((a32.add (Int.toNat find15 * 5)).add 4).add 0) (.int .i64 cLimit6)) fun ww35 =>
      (sEpoch2 < 0 →
        canStore ww35 (((a32.add (Int.toNat find15 * 5)).add 3).add 0) ∧
        (∀ p ∈ [p12, p14], p ≠ Addr.block ((a32.add (Int.toNat find15 * 5)).add 3)) ∧
        thenW (ww35.setCell (((a32.add (Int.toNat find15 * 5)).add 3).add 0) (.int .i64 (-2))) fun ww37 =>
        ∀ (ww39 : World), Ext (fun b => b = p14) ww37 ww39 →
        R (.tuple #[.agg #[.slice clone28a clone28n clone28c, .int .i64 sEpoch2], .int .i64 0]) ww39) ∧
      ((0 : Int) ≤ sEpoch2 →
        ∀ (ww41 : World), Ext (fun b => b = p14) ww35 ww41 →
        R (.tuple #[.agg #[.slice clone28a clone28n clone28c, .int .i64 sEpoch2], .int .i64 0]) ww41)))

theorem members_State_revoke.up (sL1a : Option Addr) (sL1n : Nat) (sL1c : Nat) (sEpoch2 : Int) (cKind3 : Int) (cWho4 : Int) (cPublic5 : Int) (cLimit6 : Int) (cWraps7a : Option Addr) (cWraps7n : Nat) (cWraps7c : Nat) (cOld8a : Option Addr) (cOld8n : Nat) (cOld8c : Nat) {R : Value → World → Prop} {w : World} (h : members_State_revoke.N sL1a sL1n sL1c sEpoch2 cKind3 cWho4 cPublic5 cLimit6 cWraps7a cWraps7n cWraps7c cOld8a cOld8n cOld8c R w) : members_State_revoke.M sL1a sL1n sL1c sEpoch2 cKind3 cWho4 cPublic5 cLimit6 cWraps7a cWraps7n cWraps7c cOld8a cOld8n cOld8c R w := by
  unfold members_State_revoke.M
  unfold members_State_revoke.N at h
  refine thenW_in fun ww9 e9 => ?_
  have hb1 := Blk.of_new e9
  have hg1 := ((Ext.refl no w)).size
  have hx9 := (Ext.refl no w).x_alloc e9
  refine thenW_in fun ww10 e10 => ?_
  have hb2 := Blk.of_new e10
  have hg2 := (hx9).size
  have hb1_2 := Nat.ne_of_lt hb1.lt
  have hb1 := hb1.x_alloc e10
  have hx10 := hx9.x_alloc e10
  refine thenW_in fun ww11 e11 => ?_
  have hb3 := Blk.of_new e11
  have hg3 := (hx10).size
  have hb1_3 := Nat.ne_of_lt hb1.lt
  have hb1 := hb1.x_alloc e11
  have hb2_3 := Nat.ne_of_lt hb2.lt
  have hb2 := hb2.x_alloc e11
  have hx11 := hx10.x_alloc e11
  refine ⟨sL1a, sL1n, sL1c, sEpoch2, ⟨hb1.celli 0 rfl rfl, hb1.celli 1 rfl rfl, trivial⟩, ?_⟩
  refine ⟨cWho4, hb2.celli 1 rfl rfl, ?_⟩
  have h := h ww11 (w.heap.size) (ww9.heap.size) (ww10.heap.size) hx11 (Priv.cons hg1 hb1.lt (Priv.cons hg2 hb2.lt (Priv.cons hg3 hb3.lt Priv.nil)))
  refine h.mono fun ee17 ww18 h => ?_
  obtain ⟨find15, find16, he, hk, h⟩ := h
  refine ⟨find15, find16, he, ?_⟩
  have hb1 := hk.blk hb1 (by simp)
  have hb2 := hk.blk hb2 (by simp)
  have hb3 := hk.blk hb3 (by simp)
  refine bif_of (fun c19 => ?_) (fun c19 => ?_)
  · have h := h.1 (not_t c19)
    have hm21 : Ext (fun b => b = ww10.heap.size) ww18 ww18 := ((Ext.refl no ww18)).none
    refine ⟨hb3.cani 0 rfl rfl, thenW_in fun ww20 e20 => ?_⟩
    have hx20 := hm21.x_set (q := ww10.heap.size) (i := 0) rfl (.inl rfl) e20
    have hb3 := hb3.seti 0 rfl e20
    refine ⟨hb3.cani 1 rfl rfl, thenW_in fun ww21 e21 => ?_⟩
    have hx21 := hx20.x_set (q := ww10.heap.size) (i := 1) rfl (.inl rfl) e21
    have hb3 := hb3.seti 1 rfl e21
    refine ⟨none, 0, 0, 0, ⟨hb3.celli 0 rfl rfl, hb3.celli 1 rfl rfl, trivial⟩, ?_⟩
    have h := h ww21 hx21
    exact h
  · have h := h.2 (not_f c19)
    refine ⟨sL1a, sL1n, sL1c, hb1.celli 0 rfl rfl, ?_⟩
    obtain ⟨a22, ha22, h⟩ := h
    refine elim_some ha22 ?_
    obtain ⟨hq1, hq2, h⟩ := h
    refine ⟨hq1, hq2, ?_⟩
    obtain ⟨To24, hc23, h⟩ := h
    refine ⟨To24, hc23, ?_⟩
    refine bif_of (fun c25 => ?_) (fun c25 => ?_)
    · have h := h.1 (bne_t c25)
      have hm27 : Ext (fun b => b = ww10.heap.size) ww18 ww18 := ((Ext.refl no ww18)).none
      refine ⟨hb3.cani 0 rfl rfl, thenW_in fun ww26 e26 => ?_⟩
      have hx26 := hm27.x_set (q := ww10.heap.size) (i := 0) rfl (.inl rfl) e26
      have hb3 := hb3.seti 0 rfl e26
      refine ⟨hb3.cani 1 rfl rfl, thenW_in fun ww27 e27 => ?_⟩
      have hx27 := hx26.x_set (q := ww10.heap.size) (i := 1) rfl (.inl rfl) e27
      have hb3 := hb3.seti 1 rfl e27
      refine ⟨none, 0, 0, 0, ⟨hb3.celli 0 rfl rfl, hb3.celli 1 rfl rfl, trivial⟩, ?_⟩
      have h := h ww27 hx27
      exact h
    · have h := h.2 (bne_f c25)
      refine ⟨sL1a, sL1n, sL1c, hb1.celli 0 rfl rfl, ?_⟩
      refine h.mono fun ee29 ww30 h => ?_
      obtain ⟨clone28a, clone28n, clone28c, he, hk, h⟩ := h
      refine ⟨clone28a, clone28n, clone28c, he, ?_⟩
      have hb1 := hk.blk hb1 (by simp)
      have hb2 := hk.blk hb2 (by simp)
      have hb3 := hk.blk hb3 (by simp)
      have hm31 : Ext (fun b => b = w.heap.size) ww30 ww30 := ((Ext.refl no ww30)).none
      refine ⟨hb1.cani 0 rfl rfl, thenW_in fun ww31 e31 => ?_⟩
      have hx31 := hm31.x_set (q := w.heap.size) (i := 0) rfl (.inl rfl) e31
      have hb1 := hb1.seti 0 rfl e31
      have hb2 := hb2.oth (q := w.heap.size) (i := 0) rfl (Ne.symm hb1_2) e31
      have hb3 := hb3.oth (q := w.heap.size) (i := 0) rfl (Ne.symm hb1_3) e31
      refine ⟨clone28a, clone28n, clone28c, hb1.celli 0 rfl rfl, ?_⟩
      obtain ⟨a32, ha32, h⟩ := h
      refine elim_some ha32 ?_
      obtain ⟨hq1, hq2, h⟩ := h
      refine ⟨hq1, hq2, ?_⟩
      refine thenW_in fun ww33 e33 => ?_
      have hx33 := hx31.x_drew e33
      have hb1 := hb1.x_drew e33
      have hb2 := hb2.x_drew e33
      have hb3 := hb3.x_drew e33
      refine ⟨sEpoch2, hb1.celli 1 rfl rfl, ?_⟩
      refine ⟨cLimit6, hb2.celli 3 rfl rfl, ?_⟩
      have h := h ww33 hx33
      obtain ⟨hcs, hof, h⟩ := h
      refine ⟨hcs, thenW_in fun ww34 e34 => ?_⟩
      replace h := thenW_out h e34
      have hb1 := hb1.off (by rw [block_add]; exact hof _ (by simp)) e34
      have hb2 := hb2.off (by rw [block_add]; exact hof _ (by simp)) e34
      have hb3 := hb3.off (by rw [block_add]; exact hof _ (by simp)) e34
      refine ⟨hb2.celli 3 rfl rfl, ?_⟩
      obtain ⟨hcs, hof, h⟩ := h
      refine ⟨hcs, thenW_in fun ww35 e35 => ?_⟩
      replace h := thenW_out h e35
      have hb1 := hb1.off (by rw [block_add]; exact hof _ (by simp)) e35
      have hb3 := hb3.off (by rw [block_add]; exact hof _ (by simp)) e35
      refine ⟨sEpoch2, hb1.celli 1 rfl rfl, ?_⟩
      refine bif_of (fun c36 => ?_) (fun c36 => ?_)
      · have h := h.1 (of_decide_eq_true c36)
        obtain ⟨hcs, hof, h⟩ := h
        refine ⟨hcs, thenW_in fun ww37 e37 => ?_⟩
        replace h := thenW_out h e37
        have hb1 := hb1.off (by rw [block_add]; exact hof _ (by simp)) e37
        have hb3 := hb3.off (by rw [block_add]; exact hof _ (by simp)) e37
        refine ⟨clone28a, clone28n, clone28c, sEpoch2, ⟨hb1.celli 0 rfl rfl, hb1.celli 1 rfl rfl, trivial⟩, ?_⟩
        have hm39 : Ext (fun b => b = ww10.heap.size) ww37 ww37 := ((Ext.refl no ww37)).none
        refine ⟨hb3.cani 0 rfl rfl, thenW_in fun ww38 e38 => ?_⟩
        have hx38 := hm39.x_set (q := ww10.heap.size) (i := 0) rfl (.inl rfl) e38
        have hb3 := hb3.seti 0 rfl e38
        refine ⟨hb3.cani 1 rfl rfl, thenW_in fun ww39 e39 => ?_⟩
        have hx39 := hx38.x_set (q := ww10.heap.size) (i := 1) rfl (.inl rfl) e39
        have hb3 := hb3.seti 1 rfl e39
        refine ⟨clone28a, clone28n, clone28c, sEpoch2, ⟨hb3.celli 0 rfl rfl, hb3.celli 1 rfl rfl, trivial⟩, ?_⟩
        have h := h ww39 hx39
        exact h
      · have h := h.2 (Int.not_lt.1 (of_decide_eq_false c36))
        refine ⟨clone28a, clone28n, clone28c, sEpoch2, ⟨hb1.celli 0 rfl rfl, hb1.celli 1 rfl rfl, trivial⟩, ?_⟩
        have hm41 : Ext (fun b => b = ww10.heap.size) ww35 ww35 := ((Ext.refl no ww35)).none
        refine ⟨hb3.cani 0 rfl rfl, thenW_in fun ww40 e40 => ?_⟩
        have hx40 := hm41.x_set (q := ww10.heap.size) (i := 0) rfl (.inl rfl) e40
        have hb3 := hb3.seti 0 rfl e40
        refine ⟨hb3.cani 1 rfl rfl, thenW_in fun ww41 e41 => ?_⟩
        have hx41 := hx40.x_set (q := ww10.heap.size) (i := 1) rfl (.inl rfl) e41
        have hb3 := hb3.seti 1 rfl e41
        refine ⟨clone28a, clone28n, clone28c, sEpoch2, ⟨hb3.celli 0 rfl rfl, hb3.celli 1 rfl rfl, trivial⟩, ?_⟩
        have h := h ww41 hx41
        exact h

theorem members_State_revoke.go (sL1a : Option Addr) (sL1n : Nat) (sL1c : Nat) (sEpoch2 : Int) (cKind3 : Int) (cWho4 : Int) (cPublic5 : Int) (cLimit6 : Int) (cWraps7a : Option Addr) (cWraps7n : Nat) (cWraps7c : Nat) (cOld8a : Option Addr) (cOld8n : Nat) (cOld8c : Nat) {R : Value → World → Prop} {w : World} (h : members_State_revoke.N sL1a sL1n sL1c sEpoch2 cKind3 cWho4 cPublic5 cLimit6 cWraps7a cWraps7n cWraps7c cOld8a cOld8n cOld8c R w) : Calls Try.prog 38 #[.agg #[.slice sL1a sL1n sL1c, .int .i64 sEpoch2], .agg #[.int .i64 cKind3, .int .i64 cWho4, .int .u64 cPublic5, .int .i64 cLimit6, .slice cWraps7a cWraps7n cWraps7c, .slice cOld8a cOld8n cOld8c]] w fun e w' => ∃ v, e = .returned v ∧ R v w' := members_State_revoke.ok sL1a sL1n sL1c sEpoch2 cKind3 cWho4 cPublic5 cLimit6 cWraps7a cWraps7n cWraps7c cOld8a cOld8n cOld8c (members_State_revoke.up sL1a sL1n sL1c sEpoch2 cKind3 cWho4 cPublic5 cLimit6 cWraps7a cWraps7n cWraps7c cOld8a cOld8n cOld8c h)
theorem members_State_revoke.run (sL1a : Option Addr) (sL1n : Nat) (sL1c : Nat) (sEpoch2 : Int) (cKind3 : Int) (cWho4 : Int) (cPublic5 : Int) (cLimit6 : Int) (cWraps7a : Option Addr) (cWraps7n : Nat) (cWraps7c : Nat) (cOld8a : Option Addr) (cOld8n : Nat) (cOld8c : Nat) {V : Value} {Q : World → Prop} {w : World} (h : members_State_revoke.N sL1a sL1n sL1c sEpoch2 cKind3 cWho4 cPublic5 cLimit6 cWraps7a cWraps7n cWraps7c cOld8a cOld8n cOld8c (fun v w' => v = V ∧ Q w') w) : Calls Try.prog 38 #[.agg #[.slice sL1a sL1n sL1c, .int .i64 sEpoch2], .agg #[.int .i64 cKind3, .int .i64 cWho4, .int .u64 cPublic5, .int .i64 cLimit6, .slice cWraps7a cWraps7n cWraps7c, .slice cOld8a cOld8n cOld8c]] w (Ret V Q) := (members_State_revoke.go sL1a sL1n sL1c sEpoch2 cKind3 cWho4 cPublic5 cLimit6 cWraps7a cWraps7n cWraps7c cOld8a cOld8n cOld8c h).mono fun e w' ⟨v, he, hv, hq⟩ => ⟨by rw [he, hv], hq⟩

/-- (members.State).begin -/
def members_State_begin.M (sL1a : Option Addr) (sL1n : Nat) (sL1c : Nat) (sEpoch2 : Int) (cKind3 : Int) (cWho4 : Int) (cPublic5 : Int) (cLimit6 : Int) (cWraps7a : Option Addr) (cWraps7n : Nat) (cWraps7c : Nat) (cOld8a : Option Addr) (cOld8n : Nat) (cOld8c : Nat) (R : Value → World → Prop) (w : World) : Prop :=
  thenW (w.alloc (.cells #[.slice sL1a sL1n sL1c, .int .i64 sEpoch2] 28)) fun ww9 =>
  thenW (ww9.alloc (.cells #[.int .i64 cKind3, .int .i64 cWho4, .int .u64 cPublic5, .int .i64 cLimit6, .slice cWraps7a cWraps7n cWraps7c, .slice cOld8a cOld8n cOld8c] 36)) fun ww10 =>
  thenW (ww10.alloc (.cells #[.slice none 0 0, .int .i64 0] 28)) fun ww11 =>
  ∃ (Epoch12 : Int), ww11.cell? ((blk w.heap.size).add 1) = some (.int .i64 Epoch12) ∧
  bif decide ((IntKind.i64.wrap (Epoch12 + 1)) ≥ 20) then (
  canStore ww11 ((blk ww10.heap.size).add 0) ∧
  thenW (ww11.setCell ((blk ww10.heap.size).add 0) (.slice none 0 0)) fun ww13 =>
  canStore ww13 ((blk ww10.heap.size).add 1) ∧
  thenW (ww13.setCell ((blk ww10.heap.size).add 1) (.int .i64 0)) fun ww14 =>
  ∃ (resL15a : Option Addr) (resL15n : Nat) (resL15c : Nat) (resEpoch16 : Int), cellsAt ww14 (blk ww10.heap.size) [.slice resL15a resL15n resL15c, .int .i64 resEpoch16] 0 ∧
  R (.tuple #[.agg #[.slice resL15a resL15n resL15c, .int .i64 resEpoch16], .int .i64 2]) ww14) else (
  thenW (ww11.drew) fun ww17 =>
  ∃ (Old18a : Option Addr) (Old18n : Nat) (Old18c : Nat), ww17.cell? ((blk ww9.heap.size).add 5) = some (.slice Old18a Old18n Old18c) ∧
  ∃ (Epoch19 : Int), ww17.cell? ((blk w.heap.size).add 1) = some (.int .i64 Epoch19) ∧
  bif !(((Old18n : Int) == 0) == (decide (Epoch19 < 0))) then (
  canStore ww17 ((blk ww10.heap.size).add 0) ∧
  thenW (ww17.setCell ((blk ww10.heap.size).add 0) (.slice none 0 0)) fun ww20 =>
  canStore ww20 ((blk ww10.heap.size).add 1) ∧
  thenW (ww20.setCell ((blk ww10.heap.size).add 1) (.int .i64 0)) fun ww21 =>
  ∃ (resL22a : Option Addr) (resL22n : Nat) (resL22c : Nat) (resEpoch23 : Int), cellsAt ww21 (blk ww10.heap.size) [.slice resL22a resL22n resL22c, .int .i64 resEpoch23] 0 ∧
  R (.tuple #[.agg #[.slice resL22a resL22n resL22c, .int .i64 resEpoch23], .int .i64 10]) ww21) else (
  ∃ (xL24a : Option Addr) (xL24n : Nat) (xL24c : Nat) (xEpoch25 : Int), cellsAt ww17 (blk w.heap.size) [.slice xL24a xL24n xL24c, .int .i64 xEpoch25] 0 ∧
  ∃ (Wraps26a : Option Addr) (Wraps26n : Nat) (Wraps26c : Nat), ww17.cell? ((blk ww9.heap.size).add 4) = some (.slice Wraps26a Wraps26n Wraps26c) ∧
  Calls Try.prog 22 #[.agg #[.slice xL24a xL24n xL24c, .int .i64 xEpoch25]] ww17 fun ee28 ww29 => ∃ (now27a : Option Addr) (now27n : Nat) (now27c : Nat), ee28 = .returned (.slice now27a now27n now27c) ∧
  ww29.cell? ((blk ww9.heap.size).add 4) = some (.slice Wraps26a Wraps26n Wraps26c) ∧
  Calls Try.prog 57 #[.slice now27a now27n now27c, .slice Wraps26a Wraps26n Wraps26c, .func (.func 58) #[] #[]] ww29 fun ee31 ww32 => ∃ (equalfun30 : Bool), ee31 = .returned (.bool equalfun30) ∧
  bif !equalfun30 then (
  canStore ww32 ((blk ww10.heap.size).add 0) ∧
  thenW (ww32.setCell ((blk ww10.heap.size).add 0) (.slice none 0 0)) fun ww33 =>
  canStore ww33 ((blk ww10.heap.size).add 1) ∧
  thenW (ww33.setCell ((blk ww10.heap.size).add 1) (.int .i64 0)) fun ww34 =>
  ∃ (resL35a : Option Addr) (resL35n : Nat) (resL35c : Nat) (resEpoch36 : Int), cellsAt ww34 (blk ww10.heap.size) [.slice resL35a resL35n resL35c, .int .i64 resEpoch36] 0 ∧
  R (.tuple #[.agg #[.slice resL35a resL35n resL35c, .int .i64 resEpoch36], .int .i64 10]) ww34) else (
  ∃ (L37a : Option Addr) (L37n : Nat) (L37c : Nat), ww32.cell? ((blk w.heap.size).add 0) = some (.slice L37a L37n L37c) ∧
  Calls Try.prog 59 #[.slice L37a L37n L37c] ww32 fun ee39 ww40 => ∃ (clone38a : Option Addr) (clone38n : Nat) (clone38c : Nat), ee39 = .returned (.slice clone38a clone38n clone38c) ∧
  canStore ww40 (((blk w.heap.size).add 0).add 0) ∧
  thenW (ww40.setCell (((blk w.heap.size).add 0).add 0) (.slice clone38a clone38n clone38c)) fun ww41 =>
  ∃ (Epoch42 : Int), ww41.cell? ((blk w.heap.size).add 1) = some (.int .i64 Epoch42) ∧
  canStore ww41 (((blk w.heap.size).add 1).add 0) ∧
  thenW (ww41.setCell (((blk w.heap.size).add 1).add 0) (.int .i64 (IntKind.i64.wrap (Epoch42 + 1)))) fun ww43 =>
  ∃ (xL44a : Option Addr) (xL44n : Nat) (xL44c : Nat) (xEpoch45 : Int), cellsAt ww43 (blk w.heap.size) [.slice xL44a xL44n xL44c, .int .i64 xEpoch45] 0 ∧
  canStore ww43 ((blk ww10.heap.size).add 0) ∧
  thenW (ww43.setCell ((blk ww10.heap.size).add 0) (.slice xL44a xL44n xL44c)) fun ww46 =>
  canStore ww46 ((blk ww10.heap.size).add 1) ∧
  thenW (ww46.setCell ((blk ww10.heap.size).add 1) (.int .i64 xEpoch45)) fun ww47 =>
  ∃ (resL48a : Option Addr) (resL48n : Nat) (resL48c : Nat) (resEpoch49 : Int), cellsAt ww47 (blk ww10.heap.size) [.slice resL48a resL48n resL48c, .int .i64 resEpoch49] 0 ∧
  R (.tuple #[.agg #[.slice resL48a resL48n resL48c, .int .i64 resEpoch49], .int .i64 0]) ww47)))

theorem members_State_begin.eq (sL1a : Option Addr) (sL1n : Nat) (sL1c : Nat) (sEpoch2 : Int) (cKind3 : Int) (cWho4 : Int) (cPublic5 : Int) (cLimit6 : Int) (cWraps7a : Option Addr) (cWraps7n : Nat) (cWraps7c : Nat) (cOld8a : Option Addr) (cOld8n : Nat) (cOld8c : Nat) (R : Value → World → Prop) (w : World) : mfunc Try.prog [] 36 [.agg #[.slice sL1a sL1n sL1c, .int .i64 sEpoch2], .agg #[.int .i64 cKind3, .int .i64 cWho4, .int .u64 cPublic5, .int .i64 cLimit6, .slice cWraps7a cWraps7n cWraps7c, .slice cOld8a cOld8n cOld8c]] R w = members_State_begin.M sL1a sL1n sL1c sEpoch2 cKind3 cWho4 cPublic5 cLimit6 cWraps7a cWraps7n cWraps7c cOld8a cOld8n cOld8c R w := by kernel_rfl
theorem members_State_begin.ok (sL1a : Option Addr) (sL1n : Nat) (sL1c : Nat) (sEpoch2 : Int) (cKind3 : Int) (cWho4 : Int) (cPublic5 : Int) (cLimit6 : Int) (cWraps7a : Option Addr) (cWraps7n : Nat) (cWraps7c : Nat) (cOld8a : Option Addr) (cOld8n : Nat) (cOld8c : Nat) {R : Value → World → Prop} {w : World} (h : members_State_begin.M sL1a sL1n sL1c sEpoch2 cKind3 cWho4 cPublic5 cLimit6 cWraps7a cWraps7n cWraps7c cOld8a cOld8n cOld8c R w) : Calls Try.prog 36 #[.agg #[.slice sL1a sL1n sL1c, .int .i64 sEpoch2], .agg #[.int .i64 cKind3, .int .i64 cWho4, .int .u64 cPublic5, .int .i64 cLimit6, .slice cWraps7a cWraps7n cWraps7c, .slice cOld8a cOld8n cOld8c]] w fun e w' => ∃ v, e = .returned v ∧ R v w' :=
  mfunc_ok follows (H := []) (args := [.agg #[.slice sL1a sL1n sL1c, .int .i64 sEpoch2], .agg #[.int .i64 cKind3, .int .i64 cWho4, .int .u64 cPublic5, .int .i64 cLimit6, .slice cWraps7a cWraps7n cWraps7c, .slice cOld8a cOld8n cOld8c]]) (by rw [members_State_begin.eq]; exact h)

def members_State_begin.N (sL1a : Option Addr) (sL1n : Nat) (sL1c : Nat) (sEpoch2 : Int) (cKind3 : Int) (cWho4 : Int) (cPublic5 : Int) (cLimit6 : Int) (cWraps7a : Option Addr) (cWraps7n : Nat) (cWraps7c : Nat) (cOld8a : Option Addr) (cOld8n : Nat) (cOld8c : Nat) (R : Value → World → Prop) (w : World) : Prop :=
  (-9223372036854775808 : Int) ≤ (sEpoch2 + 1) ∧ (sEpoch2 + 1) < 9223372036854775808 ∧
  ((sEpoch2 + 1) ≥ 20 →
    ∀ (ww14 : World), Ext no w ww14 →
    R (.tuple #[.agg #[.slice none 0 0, .int .i64 0], .int .i64 2]) ww14) ∧
  ((sEpoch2 + 1) < 20 →
    (((cOld8n : Int) == 0) ≠ (decide (sEpoch2 < 0)) →
      ∀ (ww21 : World), Ext no w ww21 →
      R (.tuple #[.agg #[.slice none 0 0, .int .i64 0], .int .i64 10]) ww21) ∧
    (((cOld8n : Int) == 0) = (decide (sEpoch2 < 0)) →
      ∀ (ww18 : World) (p25 : Nat) (p26 : Nat) (p27 : Nat), Ext no w ww18 → Priv w ww18 [p25, p26, p27] →
      Calls Try.prog 22 #[.agg #[.slice sL1a sL1n sL1c, .int .i64 sEpoch2]] ww18 fun ee29 ww30 => ∃ (now28a : Option Addr) (now28n : Nat) (now28c : Nat), ee29 = .returned (.slice now28a now28n now28c) ∧
      Keep [p25, p26, p27] ww18 ww30 ∧
      Calls Try.prog 57 #[.slice now28a now28n now28c, .slice cWraps7a cWraps7n cWraps7c, .func (.func 58) #[] #[]] ww30 fun ee32 ww33 => ∃ (equalfun31 : Bool), ee32 = .returned (.bool equalfun31) ∧
      Keep [p25, p27] ww30 ww33 ∧
      (equalfun31 = false →
        ∀ (ww36 : World), Ext (fun b => b = p27) ww33 ww36 →
        R (.tuple #[.agg #[.slice none 0 0, .int .i64 0], .int .i64 10]) ww36) ∧
      (equalfun31 = true →
        Calls Try.prog 59 #[.slice sL1a sL1n sL1c] ww33 fun ee38 ww39 => ∃ (clone37a : Option Addr) (clone37n : Nat) (clone37c : Nat), ee38 = .returned (.slice clone37a clone37n clone37c) ∧
        Keep [p25, p27] ww33 ww39 ∧
        (-9223372036854775808 : Int) ≤ (sEpoch2 + 1) ∧ (sEpoch2 + 1) < 9223372036854775808 ∧
        ∀ (ww43 : World), Ext (fun b => b = p27 ∨ b = p25) ww39 ww43 →
        R (.tuple #[.agg #[.slice clone37a clone37n clone37c, .int .i64 (sEpoch2 + 1)], .int .i64 0]) ww43)))

theorem members_State_begin.up (sL1a : Option Addr) (sL1n : Nat) (sL1c : Nat) (sEpoch2 : Int) (cKind3 : Int) (cWho4 : Int) (cPublic5 : Int) (cLimit6 : Int) (cWraps7a : Option Addr) (cWraps7n : Nat) (cWraps7c : Nat) (cOld8a : Option Addr) (cOld8n : Nat) (cOld8c : Nat) {R : Value → World → Prop} {w : World} (h : members_State_begin.N sL1a sL1n sL1c sEpoch2 cKind3 cWho4 cPublic5 cLimit6 cWraps7a cWraps7n cWraps7c cOld8a cOld8n cOld8c R w) : members_State_begin.M sL1a sL1n sL1c sEpoch2 cKind3 cWho4 cPublic5 cLimit6 cWraps7a cWraps7n cWraps7c cOld8a cOld8n cOld8c R w := by
  unfold members_State_begin.M
  unfold members_State_begin.N at h
  refine thenW_in fun ww9 e9 => ?_
  have hb1 := Blk.of_new e9
  have hg1 := ((Ext.refl no w)).size
  have hx9 := (Ext.refl no w).x_alloc e9
  refine thenW_in fun ww10 e10 => ?_
  have hb2 := Blk.of_new e10
  have hg2 := (hx9).size
  have hb1_2 := Nat.ne_of_lt hb1.lt
  have hb1 := hb1.x_alloc e10
  have hx10 := hx9.x_alloc e10
  refine thenW_in fun ww11 e11 => ?_
  have hb3 := Blk.of_new e11
  have hg3 := (hx10).size
  have hb1_3 := Nat.ne_of_lt hb1.lt
  have hb1 := hb1.x_alloc e11
  have hb2_3 := Nat.ne_of_lt hb2.lt
  have hb2 := hb2.x_alloc e11
  have hx11 := hx10.x_alloc e11
  refine ⟨sEpoch2, hb1.celli 1 rfl rfl, ?_⟩
  obtain ⟨hw1, hw2, h⟩ := h
  try rw [w64 hw1 hw2]
  refine bif_of (fun c12 => ?_) (fun c12 => ?_)
  · have h := h.1 (of_decide_eq_true c12)
    refine ⟨hb3.cani 0 rfl rfl, thenW_in fun ww13 e13 => ?_⟩
    have hx13 := hx11.x_set (q := ww10.heap.size) (i := 0) rfl (.inr hg3) e13
    have hb3 := hb3.seti 0 rfl e13
    refine ⟨hb3.cani 1 rfl rfl, thenW_in fun ww14 e14 => ?_⟩
    have hx14 := hx13.x_set (q := ww10.heap.size) (i := 1) rfl (.inr hg3) e14
    have hb3 := hb3.seti 1 rfl e14
    refine ⟨none, 0, 0, 0, ⟨hb3.celli 0 rfl rfl, hb3.celli 1 rfl rfl, trivial⟩, ?_⟩
    have h := h ww14 hx14
    exact h
  · have h := h.2 (Int.not_le.1 (of_decide_eq_false c12))
    refine thenW_in fun ww18 e18 => ?_
    have hx18 := hx11.x_drew e18
    have hb1 := hb1.x_drew e18
    have hb2 := hb2.x_drew e18
    have hb3 := hb3.x_drew e18
    refine ⟨cOld8a, cOld8n, cOld8c, hb2.celli 5 rfl rfl, ?_⟩
    refine ⟨sEpoch2, hb1.celli 1 rfl rfl, ?_⟩
    refine bif_of (fun c19 => ?_) (fun c19 => ?_)
    · have h := h.1 (bbeq_f (not_t c19))
      refine ⟨hb3.cani 0 rfl rfl, thenW_in fun ww20 e20 => ?_⟩
      have hx20 := hx18.x_set (q := ww10.heap.size) (i := 0) rfl (.inr hg3) e20
      have hb3 := hb3.seti 0 rfl e20
      refine ⟨hb3.cani 1 rfl rfl, thenW_in fun ww21 e21 => ?_⟩
      have hx21 := hx20.x_set (q := ww10.heap.size) (i := 1) rfl (.inr hg3) e21
      have hb3 := hb3.seti 1 rfl e21
      refine ⟨none, 0, 0, 0, ⟨hb3.celli 0 rfl rfl, hb3.celli 1 rfl rfl, trivial⟩, ?_⟩
      have h := h ww21 hx21
      exact h
    · have h := h.2 (bbeq_t (not_f c19))
      refine ⟨sL1a, sL1n, sL1c, sEpoch2, ⟨hb1.celli 0 rfl rfl, hb1.celli 1 rfl rfl, trivial⟩, ?_⟩
      refine ⟨cWraps7a, cWraps7n, cWraps7c, hb2.celli 4 rfl rfl, ?_⟩
      have h := h ww18 (w.heap.size) (ww9.heap.size) (ww10.heap.size) hx18 (Priv.cons hg1 hb1.lt (Priv.cons hg2 hb2.lt (Priv.cons hg3 hb3.lt Priv.nil)))
      refine h.mono fun ee29 ww30 h => ?_
      obtain ⟨now28a, now28n, now28c, he, hk, h⟩ := h
      refine ⟨now28a, now28n, now28c, he, ?_⟩
      have hb1 := hk.blk hb1 (by simp)
      have hb2 := hk.blk hb2 (by simp)
      have hb3 := hk.blk hb3 (by simp)
      refine ⟨hb2.celli 4 rfl rfl, ?_⟩
      refine h.mono fun ee32 ww33 h => ?_
      obtain ⟨equalfun31, he, hk, h⟩ := h
      refine ⟨equalfun31, he, ?_⟩
      have hb1 := hk.blk hb1 (by simp)
      have hb3 := hk.blk hb3 (by simp)
      refine bif_of (fun c34 => ?_) (fun c34 => ?_)
      · have h := h.1 (not_t c34)
        have hm36 : Ext (fun b => b = ww10.heap.size) ww33 ww33 := ((Ext.refl no ww33)).none
        refine ⟨hb3.cani 0 rfl rfl, thenW_in fun ww35 e35 => ?_⟩
        have hx35 := hm36.x_set (q := ww10.heap.size) (i := 0) rfl (.inl rfl) e35
        have hb3 := hb3.seti 0 rfl e35
        refine ⟨hb3.cani 1 rfl rfl, thenW_in fun ww36 e36 => ?_⟩
        have hx36 := hx35.x_set (q := ww10.heap.size) (i := 1) rfl (.inl rfl) e36
        have hb3 := hb3.seti 1 rfl e36
        refine ⟨none, 0, 0, 0, ⟨hb3.celli 0 rfl rfl, hb3.celli 1 rfl rfl, trivial⟩, ?_⟩
        have h := h ww36 hx36
        exact h
      · have h := h.2 (not_f c34)
        refine ⟨sL1a, sL1n, sL1c, hb1.celli 0 rfl rfl, ?_⟩
        refine h.mono fun ee38 ww39 h => ?_
        obtain ⟨clone37a, clone37n, clone37c, he, hk, h⟩ := h
        refine ⟨clone37a, clone37n, clone37c, he, ?_⟩
        have hb1 := hk.blk hb1 (by simp)
        have hb3 := hk.blk hb3 (by simp)
        have hm40 : Ext (fun b => b = w.heap.size) ww39 ww39 := ((Ext.refl no ww39)).none
        refine ⟨hb1.cani 0 rfl rfl, thenW_in fun ww40 e40 => ?_⟩
        have hx40 := hm40.x_set (q := w.heap.size) (i := 0) rfl (.inl rfl) e40
        have hb1 := hb1.seti 0 rfl e40
        have hb3 := hb3.oth (q := w.heap.size) (i := 0) rfl (Ne.symm hb1_3) e40
        refine ⟨sEpoch2, hb1.celli 1 rfl rfl, ?_⟩
        obtain ⟨hw1, hw2, h⟩ := h
        try rw [w64 hw1 hw2]
        refine ⟨hb1.cani 1 rfl rfl, thenW_in fun ww41 e41 => ?_⟩
        have hx41 := hx40.x_set (q := w.heap.size) (i := 1) rfl (.inl rfl) e41
        have hb1 := hb1.seti 1 rfl e41
        have hb3 := hb3.oth (q := w.heap.size) (i := 1) rfl (Ne.symm hb1_3) e41
        refine ⟨clone37a, clone37n, clone37c, (sEpoch2 + 1), ⟨hb1.celli 0 rfl rfl, hb1.celli 1 rfl rfl, trivial⟩, ?_⟩
        have hm43 : Ext (fun b => b = ww10.heap.size ∨ b = w.heap.size) ww39 ww41 := (hx41).mono fun _ h _ => .inr h
        refine ⟨hb3.cani 0 rfl rfl, thenW_in fun ww42 e42 => ?_⟩
        have hx42 := hm43.x_set (q := ww10.heap.size) (i := 0) rfl (.inl (.inl rfl)) e42
        have hb3 := hb3.seti 0 rfl e42
        refine ⟨hb3.cani 1 rfl rfl, thenW_in fun ww43 e43 => ?_⟩
        have hx43 := hx42.x_set (q := ww10.heap.size) (i := 1) rfl (.inl (.inl rfl)) e43
        have hb3 := hb3.seti 1 rfl e43
        refine ⟨clone37a, clone37n, clone37c, (sEpoch2 + 1), ⟨hb3.celli 0 rfl rfl, hb3.celli 1 rfl rfl, trivial⟩, ?_⟩
        have h := h ww43 hx43
        exact h

theorem members_State_begin.go (sL1a : Option Addr) (sL1n : Nat) (sL1c : Nat) (sEpoch2 : Int) (cKind3 : Int) (cWho4 : Int) (cPublic5 : Int) (cLimit6 : Int) (cWraps7a : Option Addr) (cWraps7n : Nat) (cWraps7c : Nat) (cOld8a : Option Addr) (cOld8n : Nat) (cOld8c : Nat) {R : Value → World → Prop} {w : World} (h : members_State_begin.N sL1a sL1n sL1c sEpoch2 cKind3 cWho4 cPublic5 cLimit6 cWraps7a cWraps7n cWraps7c cOld8a cOld8n cOld8c R w) : Calls Try.prog 36 #[.agg #[.slice sL1a sL1n sL1c, .int .i64 sEpoch2], .agg #[.int .i64 cKind3, .int .i64 cWho4, .int .u64 cPublic5, .int .i64 cLimit6, .slice cWraps7a cWraps7n cWraps7c, .slice cOld8a cOld8n cOld8c]] w fun e w' => ∃ v, e = .returned v ∧ R v w' := members_State_begin.ok sL1a sL1n sL1c sEpoch2 cKind3 cWho4 cPublic5 cLimit6 cWraps7a cWraps7n cWraps7c cOld8a cOld8n cOld8c (members_State_begin.up sL1a sL1n sL1c sEpoch2 cKind3 cWho4 cPublic5 cLimit6 cWraps7a cWraps7n cWraps7c cOld8a cOld8n cOld8c h)
theorem members_State_begin.run (sL1a : Option Addr) (sL1n : Nat) (sL1c : Nat) (sEpoch2 : Int) (cKind3 : Int) (cWho4 : Int) (cPublic5 : Int) (cLimit6 : Int) (cWraps7a : Option Addr) (cWraps7n : Nat) (cWraps7c : Nat) (cOld8a : Option Addr) (cOld8n : Nat) (cOld8c : Nat) {V : Value} {Q : World → Prop} {w : World} (h : members_State_begin.N sL1a sL1n sL1c sEpoch2 cKind3 cWho4 cPublic5 cLimit6 cWraps7a cWraps7n cWraps7c cOld8a cOld8n cOld8c (fun v w' => v = V ∧ Q w') w) : Calls Try.prog 36 #[.agg #[.slice sL1a sL1n sL1c, .int .i64 sEpoch2], .agg #[.int .i64 cKind3, .int .i64 cWho4, .int .u64 cPublic5, .int .i64 cLimit6, .slice cWraps7a cWraps7n cWraps7c, .slice cOld8a cOld8n cOld8c]] w (Ret V Q) := (members_State_begin.go sL1a sL1n sL1c sEpoch2 cKind3 cWho4 cPublic5 cLimit6 cWraps7a cWraps7n cWraps7c cOld8a cOld8n cOld8c h).mono fun e w' ⟨v, he, hv, hq⟩ => ⟨by rw [he, hv], hq⟩

/-- members.Apply -/
def members_Apply.M (sL1a : Option Addr) (sL1n : Nat) (sL1c : Nat) (sEpoch2 : Int) (cKind3 : Int) (cWho4 : Int) (cPublic5 : Int) (cLimit6 : Int) (cWraps7a : Option Addr) (cWraps7n : Nat) (cWraps7c : Nat) (cOld8a : Option Addr) (cOld8n : Nat) (cOld8c : Nat) (R : Value → World → Prop) (w : World) : Prop :=
  thenW (w.alloc (.cells #[.slice sL1a sL1n sL1c, .int .i64 sEpoch2] 28)) fun ww9 =>
  thenW (ww9.alloc (.cells #[.int .i64 cKind3, .int .i64 cWho4, .int .u64 cPublic5, .int .i64 cLimit6, .slice cWraps7a cWraps7n cWraps7c, .slice cOld8a cOld8n cOld8c] 36)) fun ww10 =>
  thenW (ww10.alloc (.cells #[.slice none 0 0, .int .i64 0] 28)) fun ww11 =>
  ∃ (xKind12 : Int) (xWho13 : Int) (xPublic14 : Int) (xLimit15 : Int) (xWraps16a : Option Addr) (xWraps16n : Nat) (xWraps16c : Nat) (xOld17a : Option Addr) (xOld17n : Nat) (xOld17c : Nat), cellsAt ww11 (blk ww9.heap.size) [.int .i64 xKind12, .int .i64 xWho13, .int .u64 xPublic14, .int .i64 xLimit15, .slice xWraps16a xWraps16n xWraps16c, .slice xOld17a xOld17n xOld17c] 0 ∧
  Calls Try.prog 31 #[.agg #[.int .i64 xKind12, .int .i64 xWho13, .int .u64 xPublic14, .int .i64 xLimit15, .slice xWraps16a xWraps16n xWraps16c, .slice xOld17a xOld17n xOld17c]] ww11 fun ee19 ww20 => ∃ (right18 : Bool), ee19 = .returned (.bool right18) ∧
  bif !right18 then (
  canStore ww20 ((blk ww10.heap.size).add 0) ∧
  thenW (ww20.setCell ((blk ww10.heap.size).add 0) (.slice none 0 0)) fun ww21 =>
  canStore ww21 ((blk ww10.heap.size).add 1) ∧
  thenW (ww21.setCell ((blk ww10.heap.size).add 1) (.int .i64 0)) fun ww22 =>
  ∃ (resL23a : Option Addr) (resL23n : Nat) (resL23c : Nat) (resEpoch24 : Int), cellsAt ww22 (blk ww10.heap.size) [.slice resL23a resL23n resL23c, .int .i64 resEpoch24] 0 ∧
  R (.tuple #[.agg #[.slice resL23a resL23n resL23c, .int .i64 resEpoch24], .int .i64 1]) ww22) else (
  ∃ (xL25a : Option Addr) (xL25n : Nat) (xL25c : Nat) (xEpoch26 : Int), cellsAt ww20 (blk w.heap.size) [.slice xL25a xL25n xL25c, .int .i64 xEpoch26] 0 ∧
  ∃ (Kind27 : Int), ww20.cell? ((blk ww9.heap.size).add 0) = some (.int .i64 Kind27) ∧
  bif Kind27 == 1 then (
  ∃ (xL28a : Option Addr) (xL28n : Nat) (xL28c : Nat) (xEpoch29 : Int), cellsAt ww20 (blk w.heap.size) [.slice xL28a xL28n xL28c, .int .i64 xEpoch29] 0 ∧
  ∃ (xKind30 : Int) (xWho31 : Int) (xPublic32 : Int) (xLimit33 : Int) (xWraps34a : Option Addr) (xWraps34n : Nat) (xWraps34c : Nat) (xOld35a : Option Addr) (xOld35n : Nat) (xOld35c : Nat), cellsAt ww20 (blk ww9.heap.size) [.int .i64 xKind30, .int .i64 xWho31, .int .u64 xPublic32, .int .i64 xLimit33, .slice xWraps34a xWraps34n xWraps34c, .slice xOld35a xOld35n xOld35c] 0 ∧
  Calls Try.prog 37 #[.agg #[.slice xL28a xL28n xL28c, .int .i64 xEpoch29], .agg #[.int .i64 xKind30, .int .i64 xWho31, .int .u64 xPublic32, .int .i64 xLimit33, .slice xWraps34a xWraps34n xWraps34c, .slice xOld35a xOld35n xOld35c]] ww20 fun ee39 ww40 => ∃ (L36a : Option Addr) (L36n : Nat) (L36c : Nat) (Epoch37 : Int) (invite38 : Int), ee39 = .returned (.tuple #[.agg #[.slice L36a L36n L36c, .int .i64 Epoch37], .int .i64 invite38]) ∧
  canStore ww40 ((blk ww10.heap.size).add 0) ∧
  thenW (ww40.setCell ((blk ww10.heap.size).add 0) (.slice L36a L36n L36c)) fun ww41 =>
  canStore ww41 ((blk ww10.heap.size).add 1) ∧
  thenW (ww41.setCell ((blk ww10.heap.size).add 1) (.int .i64 Epoch37)) fun ww42 =>
  ∃ (resL43a : Option Addr) (resL43n : Nat) (resL43c : Nat) (resEpoch44 : Int), cellsAt ww42 (blk ww10.heap.size) [.slice resL43a resL43n resL43c, .int .i64 resEpoch44] 0 ∧
  R (.tuple #[.agg #[.slice resL43a resL43n resL43c, .int .i64 resEpoch44], .int .i64 invite38]) ww42) else (
  bif Kind27 == 2 then (
  ∃ (xL45a : Option Addr) (xL45n : Nat) (xL45c : Nat) (xEpoch46 : Int), cellsAt ww20 (blk w.heap.size) [.slice xL45a xL45n xL45c, .int .i64 xEpoch46] 0 ∧
  ∃ (xKind47 : Int) (xWho48 : Int) (xPublic49 : Int) (xLimit50 : Int) (xWraps51a : Option Addr) (xWraps51n : Nat) (xWraps51c : Nat) (xOld52a : Option Addr) (xOld52n : Nat) (xOld52c : Nat), cellsAt ww20 (blk ww9.heap.size) [.int .i64 xKind47, .int .i64 xWho48, .int .u64 xPublic49, .int .i64 xLimit50, .slice xWraps51a xWraps51n xWraps51c, .slice xOld52a xOld52n xOld52c] 0 ∧
  Calls Try.prog 38 #[.agg #[.slice xL45a xL45n xL45c, .int .i64 xEpoch46], .agg #[.int .i64 xKind47, .int .i64 xWho48, .int .u64 xPublic49, .int .i64 xLimit50, .slice xWraps51a xWraps51n xWraps51c, .slice xOld52a xOld52n xOld52c]] ww20 fun ee56 ww57 => ∃ (L53a : Option Addr) (L53n : Nat) (L53c : Nat) (Epoch54 : Int) (revoke55 : Int), ee56 = .returned (.tuple #[.agg #[.slice L53a L53n L53c, .int .i64 Epoch54], .int .i64 revoke55]) ∧
  canStore ww57 ((blk ww10.heap.size).add 0) ∧
  thenW (ww57.setCell ((blk ww10.heap.size).add 0) (.slice L53a L53n L53c)) fun ww58 =>
  canStore ww58 ((blk ww10.heap.size).add 1) ∧
  thenW (ww58.setCell ((blk ww10.heap.size).add 1) (.int .i64 Epoch54)) fun ww59 =>
  ∃ (resL60a : Option Addr) (resL60n : Nat) (resL60c : Nat) (resEpoch61 : Int), cellsAt ww59 (blk ww10.heap.size) [.slice resL60a resL60n resL60c, .int .i64 resEpoch61] 0 ∧
  R (.tuple #[.agg #[.slice resL60a resL60n resL60c, .int .i64 resEpoch61], .int .i64 revoke55]) ww59) else (
  ∃ (xKind62 : Int) (xWho63 : Int) (xPublic64 : Int) (xLimit65 : Int) (xWraps66a : Option Addr) (xWraps66n : Nat) (xWraps66c : Nat) (xOld67a : Option Addr) (xOld67n : Nat) (xOld67c : Nat), cellsAt ww20 (blk ww9.heap.size) [.int .i64 xKind62, .int .i64 xWho63, .int .u64 xPublic64, .int .i64 xLimit65, .slice xWraps66a xWraps66n xWraps66c, .slice xOld67a xOld67n xOld67c] 0 ∧
  Calls Try.prog 36 #[.agg #[.slice xL25a xL25n xL25c, .int .i64 xEpoch26], .agg #[.int .i64 xKind62, .int .i64 xWho63, .int .u64 xPublic64, .int .i64 xLimit65, .slice xWraps66a xWraps66n xWraps66c, .slice xOld67a xOld67n xOld67c]] ww20 fun ee71 ww72 => ∃ (L68a : Option Addr) (L68n : Nat) (L68c : Nat) (Epoch69 : Int) (beginv70 : Int), ee71 = .returned (.tuple #[.agg #[.slice L68a L68n L68c, .int .i64 Epoch69], .int .i64 beginv70]) ∧
  canStore ww72 ((blk ww10.heap.size).add 0) ∧
  thenW (ww72.setCell ((blk ww10.heap.size).add 0) (.slice L68a L68n L68c)) fun ww73 =>
  canStore ww73 ((blk ww10.heap.size).add 1) ∧
  thenW (ww73.setCell ((blk ww10.heap.size).add 1) (.int .i64 Epoch69)) fun ww74 =>
  ∃ (resL75a : Option Addr) (resL75n : Nat) (resL75c : Nat) (resEpoch76 : Int), cellsAt ww74 (blk ww10.heap.size) [.slice resL75a resL75n resL75c, .int .i64 resEpoch76] 0 ∧
  R (.tuple #[.agg #[.slice resL75a resL75n resL75c, .int .i64 resEpoch76], .int .i64 beginv70]) ww74)))

theorem members_Apply.eq (sL1a : Option Addr) (sL1n : Nat) (sL1c : Nat) (sEpoch2 : Int) (cKind3 : Int) (cWho4 : Int) (cPublic5 : Int) (cLimit6 : Int) (cWraps7a : Option Addr) (cWraps7n : Nat) (cWraps7c : Nat) (cOld8a : Option Addr) (cOld8n : Nat) (cOld8c : Nat) (R : Value → World → Prop) (w : World) : mfunc Try.prog [] 12 [.agg #[.slice sL1a sL1n sL1c, .int .i64 sEpoch2], .agg #[.int .i64 cKind3, .int .i64 cWho4, .int .u64 cPublic5, .int .i64 cLimit6, .slice cWraps7a cWraps7n cWraps7c, .slice cOld8a cOld8n cOld8c]] R w = members_Apply.M sL1a sL1n sL1c sEpoch2 cKind3 cWho4 cPublic5 cLimit6 cWraps7a cWraps7n cWraps7c cOld8a cOld8n cOld8c R w := by kernel_rfl
theorem members_Apply.ok (sL1a : Option Addr) (sL1n : Nat) (sL1c : Nat) (sEpoch2 : Int) (cKind3 : Int) (cWho4 : Int) (cPublic5 : Int) (cLimit6 : Int) (cWraps7a : Option Addr) (cWraps7n : Nat) (cWraps7c : Nat) (cOld8a : Option Addr) (cOld8n : Nat) (cOld8c : Nat) {R : Value → World → Prop} {w : World} (h : members_Apply.M sL1a sL1n sL1c sEpoch2 cKind3 cWho4 cPublic5 cLimit6 cWraps7a cWraps7n cWraps7c cOld8a cOld8n cOld8c R w) : Calls Try.prog 12 #[.agg #[.slice sL1a sL1n sL1c, .int .i64 sEpoch2], .agg #[.int .i64 cKind3, .int .i64 cWho4, .int .u64 cPublic5, .int .i64 cLimit6, .slice cWraps7a cWraps7n cWraps7c, .slice cOld8a cOld8n cOld8c]] w fun e w' => ∃ v, e = .returned v ∧ R v w' :=
  mfunc_ok follows (H := []) (args := [.agg #[.slice sL1a sL1n sL1c, .int .i64 sEpoch2], .agg #[.int .i64 cKind3, .int .i64 cWho4, .int .u64 cPublic5, .int .i64 cLimit6, .slice cWraps7a cWraps7n cWraps7c, .slice cOld8a cOld8n cOld8c]]) (by rw [members_Apply.eq]; exact h)

def members_Apply.N (sL1a : Option Addr) (sL1n : Nat) (sL1c : Nat) (sEpoch2 : Int) (cKind3 : Int) (cWho4 : Int) (cPublic5 : Int) (cLimit6 : Int) (cWraps7a : Option Addr) (cWraps7n : Nat) (cWraps7c : Nat) (cOld8a : Option Addr) (cOld8n : Nat) (cOld8c : Nat) (R : Value → World → Prop) (w : World) : Prop :=
  ∀ (ww11 : World) (p12 : Nat) (p13 : Nat) (p14 : Nat), Ext no w ww11 → Priv w ww11 [p12, p13, p14] →
  Calls Try.prog 31 #[.agg #[.int .i64 cKind3, .int .i64 cWho4, .int .u64 cPublic5, .int .i64 cLimit6, .slice cWraps7a cWraps7n cWraps7c, .slice cOld8a cOld8n cOld8c]] ww11 fun ee16 ww17 => ∃ (right15 : Bool), ee16 = .returned (.bool right15) ∧
  Keep [p12, p13, p14] ww11 ww17 ∧
  (right15 = false →
    ∀ (ww20 : World), Ext (fun b => b = p14) ww17 ww20 →
    R (.tuple #[.agg #[.slice none 0 0, .int .i64 0], .int .i64 1]) ww20) ∧
  (right15 = true →
    (cKind3 = 1 →
      Calls Try.prog 37 #[.agg #[.slice sL1a sL1n sL1c, .int .i64 sEpoch2], .agg #[.int .i64 cKind3, .int .i64 cWho4, .int .u64 cPublic5, .int .i64 cLimit6, .slice cWraps7a cWraps7n cWraps7c, .slice cOld8a cOld8n cOld8c]] ww17 fun ee25 ww26 => ∃ (L22a : Option Addr) (L22n : Nat) (L22c : Nat) (Epoch23 : Int) (invite24 : Int), ee25 = .returned (.tuple #[.agg #[.slice L22a L22n L22c, .int .i64 Epoch23], .int .i64 invite24]) ∧
      Keep [p14] ww17 ww26 ∧
      ∀ (ww28 : World), Ext (fun b => b = p14) ww26 ww28 →
      R (.tuple #[.agg #[.slice L22a L22n L22c, .int .i64 Epoch23], .int .i64 invite24]) ww28) ∧
    (cKind3 ≠ 1 →
      (cKind3 = 2 →
        Calls Try.prog 38 #[.agg #[.slice sL1a sL1n sL1c, .int .i64 sEpoch2], .agg #[.int .i64 cKind3, .int .i64 cWho4, .int .u64 cPublic5, .int .i64 cLimit6, .slice cWraps7a cWraps7n cWraps7c, .slice cOld8a cOld8n cOld8c]] ww17 fun ee33 ww34 => ∃ (L30a : Option Addr) (L30n : Nat) (L30c : Nat) (Epoch31 : Int) (revoke32 : Int), ee33 = .returned (.tuple #[.agg #[.slice L30a L30n L30c, .int .i64 Epoch31], .int .i64 revoke32]) ∧
        Keep [p14] ww17 ww34 ∧
        ∀ (ww36 : World), Ext (fun b => b = p14) ww34 ww36 →
        R (.tuple #[.agg #[.slice L30a L30n L30c, .int .i64 Epoch31], .int .i64 revoke32]) ww36) ∧
      (cKind3 ≠ 2 →
        Calls Try.prog 36 #[.agg #[.slice sL1a sL1n sL1c, .int .i64 sEpoch2], .agg #[.int .i64 cKind3, .int .i64 cWho4, .int .u64 cPublic5, .int .i64 cLimit6, .slice cWraps7a cWraps7n cWraps7c, .slice cOld8a cOld8n cOld8c]] ww17 fun ee40 ww41 => ∃ (L37a : Option Addr) (L37n : Nat) (L37c : Nat) (Epoch38 : Int) (beginv39 : Int), ee40 = .returned (.tuple #[.agg #[.slice L37a L37n L37c, .int .i64 Epoch38], .int .i64 beginv39]) ∧
        Keep [p14] ww17 ww41 ∧
        ∀ (ww43 : World), Ext (fun b => b = p14) ww41 ww43 →
        R (.tuple #[.agg #[.slice L37a L37n L37c, .int .i64 Epoch38], .int .i64 beginv39]) ww43)))

theorem members_Apply.up (sL1a : Option Addr) (sL1n : Nat) (sL1c : Nat) (sEpoch2 : Int) (cKind3 : Int) (cWho4 : Int) (cPublic5 : Int) (cLimit6 : Int) (cWraps7a : Option Addr) (cWraps7n : Nat) (cWraps7c : Nat) (cOld8a : Option Addr) (cOld8n : Nat) (cOld8c : Nat) {R : Value → World → Prop} {w : World} (h : members_Apply.N sL1a sL1n sL1c sEpoch2 cKind3 cWho4 cPublic5 cLimit6 cWraps7a cWraps7n cWraps7c cOld8a cOld8n cOld8c R w) : members_Apply.M sL1a sL1n sL1c sEpoch2 cKind3 cWho4 cPublic5 cLimit6 cWraps7a cWraps7n cWraps7c cOld8a cOld8n cOld8c R w := by
  unfold members_Apply.M
  unfold members_Apply.N at h
  refine thenW_in fun ww9 e9 => ?_
  have hb1 := Blk.of_new e9
  have hg1 := ((Ext.refl no w)).size
  have hx9 := (Ext.refl no w).x_alloc e9
  refine thenW_in fun ww10 e10 => ?_
  have hb2 := Blk.of_new e10
  have hg2 := (hx9).size
  have hb1_2 := Nat.ne_of_lt hb1.lt
  have hb1 := hb1.x_alloc e10
  have hx10 := hx9.x_alloc e10
  refine thenW_in fun ww11 e11 => ?_
  have hb3 := Blk.of_new e11
  have hg3 := (hx10).size
  have hb1_3 := Nat.ne_of_lt hb1.lt
  have hb1 := hb1.x_alloc e11
  have hb2_3 := Nat.ne_of_lt hb2.lt
  have hb2 := hb2.x_alloc e11
  have hx11 := hx10.x_alloc e11
  refine ⟨cKind3, cWho4, cPublic5, cLimit6, cWraps7a, cWraps7n, cWraps7c, cOld8a, cOld8n, cOld8c, ⟨hb2.celli 0 rfl rfl, hb2.celli 1 rfl rfl, hb2.celli 2 rfl rfl, hb2.celli 3 rfl rfl, hb2.celli 4 rfl rfl, hb2.celli 5 rfl rfl, trivial⟩, ?_⟩
  have h := h ww11 (w.heap.size) (ww9.heap.size) (ww10.heap.size) hx11 (Priv.cons hg1 hb1.lt (Priv.cons hg2 hb2.lt (Priv.cons hg3 hb3.lt Priv.nil)))
  refine h.mono fun ee16 ww17 h => ?_
  obtain ⟨right15, he, hk, h⟩ := h
  refine ⟨right15, he, ?_⟩
  have hb1 := hk.blk hb1 (by simp)
  have hb2 := hk.blk hb2 (by simp)
  have hb3 := hk.blk hb3 (by simp)
  refine bif_of (fun c18 => ?_) (fun c18 => ?_)
  · have h := h.1 (not_t c18)
    have hm20 : Ext (fun b => b = ww10.heap.size) ww17 ww17 := ((Ext.refl no ww17)).none
    refine ⟨hb3.cani 0 rfl rfl, thenW_in fun ww19 e19 => ?_⟩
    have hx19 := hm20.x_set (q := ww10.heap.size) (i := 0) rfl (.inl rfl) e19
    have hb3 := hb3.seti 0 rfl e19
    refine ⟨hb3.cani 1 rfl rfl, thenW_in fun ww20 e20 => ?_⟩
    have hx20 := hx19.x_set (q := ww10.heap.size) (i := 1) rfl (.inl rfl) e20
    have hb3 := hb3.seti 1 rfl e20
    refine ⟨none, 0, 0, 0, ⟨hb3.celli 0 rfl rfl, hb3.celli 1 rfl rfl, trivial⟩, ?_⟩
    have h := h ww20 hx20
    exact h
  · have h := h.2 (not_f c18)
    refine ⟨sL1a, sL1n, sL1c, sEpoch2, ⟨hb1.celli 0 rfl rfl, hb1.celli 1 rfl rfl, trivial⟩, ?_⟩
    refine ⟨cKind3, hb2.celli 0 rfl rfl, ?_⟩
    refine bif_of (fun c21 => ?_) (fun c21 => ?_)
    · have h := h.1 (beq_t c21)
      refine ⟨sL1a, sL1n, sL1c, sEpoch2, ⟨hb1.celli 0 rfl rfl, hb1.celli 1 rfl rfl, trivial⟩, ?_⟩
      refine ⟨cKind3, cWho4, cPublic5, cLimit6, cWraps7a, cWraps7n, cWraps7c, cOld8a, cOld8n, cOld8c, ⟨hb2.celli 0 rfl rfl, hb2.celli 1 rfl rfl, hb2.celli 2 rfl rfl, hb2.celli 3 rfl rfl, hb2.celli 4 rfl rfl, hb2.celli 5 rfl rfl, trivial⟩, ?_⟩
      refine h.mono fun ee25 ww26 h => ?_
      obtain ⟨L22a, L22n, L22c, Epoch23, invite24, he, hk, h⟩ := h
      refine ⟨L22a, L22n, L22c, Epoch23, invite24, he, ?_⟩
      have hb3 := hk.blk hb3 (by simp)
      have hm28 : Ext (fun b => b = ww10.heap.size) ww26 ww26 := ((Ext.refl no ww26)).none
      refine ⟨hb3.cani 0 rfl rfl, thenW_in fun ww27 e27 => ?_⟩
      have hx27 := hm28.x_set (q := ww10.heap.size) (i := 0) rfl (.inl rfl) e27
      have hb3 := hb3.seti 0 rfl e27
      refine ⟨hb3.cani 1 rfl rfl, thenW_in fun ww28 e28 => ?_⟩
      have hx28 := hx27.x_set (q := ww10.heap.size) (i := 1) rfl (.inl rfl) e28
      have hb3 := hb3.seti 1 rfl e28
      refine ⟨L22a, L22n, L22c, Epoch23, ⟨hb3.celli 0 rfl rfl, hb3.celli 1 rfl rfl, trivial⟩, ?_⟩
      have h := h ww28 hx28
      exact h
    · have h := h.2 (beq_f c21)
      refine bif_of (fun c29 => ?_) (fun c29 => ?_)
      · have h := h.1 (beq_t c29)
        refine ⟨sL1a, sL1n, sL1c, sEpoch2, ⟨hb1.celli 0 rfl rfl, hb1.celli 1 rfl rfl, trivial⟩, ?_⟩
        refine ⟨cKind3, cWho4, cPublic5, cLimit6, cWraps7a, cWraps7n, cWraps7c, cOld8a, cOld8n, cOld8c, ⟨hb2.celli 0 rfl rfl, hb2.celli 1 rfl rfl, hb2.celli 2 rfl rfl, hb2.celli 3 rfl rfl, hb2.celli 4 rfl rfl, hb2.celli 5 rfl rfl, trivial⟩, ?_⟩
        refine h.mono fun ee33 ww34 h => ?_
        obtain ⟨L30a, L30n, L30c, Epoch31, revoke32, he, hk, h⟩ := h
        refine ⟨L30a, L30n, L30c, Epoch31, revoke32, he, ?_⟩
        have hb3 := hk.blk hb3 (by simp)
        have hm36 : Ext (fun b => b = ww10.heap.size) ww34 ww34 := ((Ext.refl no ww34)).none
        refine ⟨hb3.cani 0 rfl rfl, thenW_in fun ww35 e35 => ?_⟩
        have hx35 := hm36.x_set (q := ww10.heap.size) (i := 0) rfl (.inl rfl) e35
        have hb3 := hb3.seti 0 rfl e35
        refine ⟨hb3.cani 1 rfl rfl, thenW_in fun ww36 e36 => ?_⟩
        have hx36 := hx35.x_set (q := ww10.heap.size) (i := 1) rfl (.inl rfl) e36
        have hb3 := hb3.seti 1 rfl e36
        refine ⟨L30a, L30n, L30c, Epoch31, ⟨hb3.celli 0 rfl rfl, hb3.celli 1 rfl rfl, trivial⟩, ?_⟩
        have h := h ww36 hx36
        exact h
      · have h := h.2 (beq_f c29)
        refine ⟨cKind3, cWho4, cPublic5, cLimit6, cWraps7a, cWraps7n, cWraps7c, cOld8a, cOld8n, cOld8c, ⟨hb2.celli 0 rfl rfl, hb2.celli 1 rfl rfl, hb2.celli 2 rfl rfl, hb2.celli 3 rfl rfl, hb2.celli 4 rfl rfl, hb2.celli 5 rfl rfl, trivial⟩, ?_⟩
        refine h.mono fun ee40 ww41 h => ?_
        obtain ⟨L37a, L37n, L37c, Epoch38, beginv39, he, hk, h⟩ := h
        refine ⟨L37a, L37n, L37c, Epoch38, beginv39, he, ?_⟩
        have hb3 := hk.blk hb3 (by simp)
        have hm43 : Ext (fun b => b = ww10.heap.size) ww41 ww41 := ((Ext.refl no ww41)).none
        refine ⟨hb3.cani 0 rfl rfl, thenW_in fun ww42 e42 => ?_⟩
        have hx42 := hm43.x_set (q := ww10.heap.size) (i := 0) rfl (.inl rfl) e42
        have hb3 := hb3.seti 0 rfl e42
        refine ⟨hb3.cani 1 rfl rfl, thenW_in fun ww43 e43 => ?_⟩
        have hx43 := hx42.x_set (q := ww10.heap.size) (i := 1) rfl (.inl rfl) e43
        have hb3 := hb3.seti 1 rfl e43
        refine ⟨L37a, L37n, L37c, Epoch38, ⟨hb3.celli 0 rfl rfl, hb3.celli 1 rfl rfl, trivial⟩, ?_⟩
        have h := h ww43 hx43
        exact h

theorem members_Apply.go (sL1a : Option Addr) (sL1n : Nat) (sL1c : Nat) (sEpoch2 : Int) (cKind3 : Int) (cWho4 : Int) (cPublic5 : Int) (cLimit6 : Int) (cWraps7a : Option Addr) (cWraps7n : Nat) (cWraps7c : Nat) (cOld8a : Option Addr) (cOld8n : Nat) (cOld8c : Nat) {R : Value → World → Prop} {w : World} (h : members_Apply.N sL1a sL1n sL1c sEpoch2 cKind3 cWho4 cPublic5 cLimit6 cWraps7a cWraps7n cWraps7c cOld8a cOld8n cOld8c R w) : Calls Try.prog 12 #[.agg #[.slice sL1a sL1n sL1c, .int .i64 sEpoch2], .agg #[.int .i64 cKind3, .int .i64 cWho4, .int .u64 cPublic5, .int .i64 cLimit6, .slice cWraps7a cWraps7n cWraps7c, .slice cOld8a cOld8n cOld8c]] w fun e w' => ∃ v, e = .returned v ∧ R v w' := members_Apply.ok sL1a sL1n sL1c sEpoch2 cKind3 cWho4 cPublic5 cLimit6 cWraps7a cWraps7n cWraps7c cOld8a cOld8n cOld8c (members_Apply.up sL1a sL1n sL1c sEpoch2 cKind3 cWho4 cPublic5 cLimit6 cWraps7a cWraps7n cWraps7c cOld8a cOld8n cOld8c h)
theorem members_Apply.run (sL1a : Option Addr) (sL1n : Nat) (sL1c : Nat) (sEpoch2 : Int) (cKind3 : Int) (cWho4 : Int) (cPublic5 : Int) (cLimit6 : Int) (cWraps7a : Option Addr) (cWraps7n : Nat) (cWraps7c : Nat) (cOld8a : Option Addr) (cOld8n : Nat) (cOld8c : Nat) {V : Value} {Q : World → Prop} {w : World} (h : members_Apply.N sL1a sL1n sL1c sEpoch2 cKind3 cWho4 cPublic5 cLimit6 cWraps7a cWraps7n cWraps7c cOld8a cOld8n cOld8c (fun v w' => v = V ∧ Q w') w) : Calls Try.prog 12 #[.agg #[.slice sL1a sL1n sL1c, .int .i64 sEpoch2], .agg #[.int .i64 cKind3, .int .i64 cWho4, .int .u64 cPublic5, .int .i64 cLimit6, .slice cWraps7a cWraps7n cWraps7c, .slice cOld8a cOld8n cOld8c]] w (Ret V Q) := (members_Apply.go sL1a sL1n sL1c sEpoch2 cKind3 cWho4 cPublic5 cLimit6 cWraps7a cWraps7n cWraps7c cOld8a cOld8n cOld8c h).mono fun e w' ⟨v, he, hv, hq⟩ => ⟨by rw [he, hv], hq⟩

/-- members.Find -/
def members_Find.M (sL1a : Option Addr) (sL1n : Nat) (sL1c : Nat) (sEpoch2 : Int) (who3 : Int) (R : Value → World → Prop) (w : World) : Prop :=
  thenW (w.alloc (.cells #[.slice sL1a sL1n sL1c, .int .i64 sEpoch2] 28)) fun ww4 =>
  thenW (ww4.alloc (.cells #[.int .i64 0, .int .u64 0, .int .i64 0, .int .i64 0, .int .i64 0] 49)) fun ww5 =>
  ∃ (xL6a : Option Addr) (xL6n : Nat) (xL6c : Nat) (xEpoch7 : Int), cellsAt ww5 (blk w.heap.size) [.slice xL6a xL6n xL6c, .int .i64 xEpoch7] 0 ∧
  Calls Try.prog 39 #[.agg #[.slice xL6a xL6n xL6c, .int .i64 xEpoch7], .int .i64 who3] ww5 fun ee10 ww11 => ∃ (find8 : Int) (find9 : Bool), ee10 = .returned (.tuple #[.int .i64 find8, .bool find9]) ∧
  bif !find9 then (
  ∃ (xWho12 : Int) (xPublic13 : Int) (xFrom14 : Int) (xTo15 : Int) (xLimit16 : Int), cellsAt ww11 (blk ww4.heap.size) [.int .i64 xWho12, .int .u64 xPublic13, .int .i64 xFrom14, .int .i64 xTo15, .int .i64 xLimit16] 0 ∧
  canStore ww11 ((blk ww4.heap.size).add 0) ∧
  thenW (ww11.setCell ((blk ww4.heap.size).add 0) (.int .i64 xWho12)) fun ww17 =>
  canStore ww17 ((blk ww4.heap.size).add 1) ∧
  thenW (ww17.setCell ((blk ww4.heap.size).add 1) (.int .u64 xPublic13)) fun ww18 =>
  canStore ww18 ((blk ww4.heap.size).add 2) ∧
  thenW (ww18.setCell ((blk ww4.heap.size).add 2) (.int .i64 xFrom14)) fun ww19 =>
  canStore ww19 ((blk ww4.heap.size).add 3) ∧
  thenW (ww19.setCell ((blk ww4.heap.size).add 3) (.int .i64 xTo15)) fun ww20 =>
  canStore ww20 ((blk ww4.heap.size).add 4) ∧
  thenW (ww20.setCell ((blk ww4.heap.size).add 4) (.int .i64 xLimit16)) fun ww21 =>
  ∃ (resWho22 : Int) (resPublic23 : Int) (resFrom24 : Int) (resTo25 : Int) (resLimit26 : Int), cellsAt ww21 (blk ww4.heap.size) [.int .i64 resWho22, .int .u64 resPublic23, .int .i64 resFrom24, .int .i64 resTo25, .int .i64 resLimit26] 0 ∧
  R (.tuple #[.agg #[.int .i64 resWho22, .int .u64 resPublic23, .int .i64 resFrom24, .int .i64 resTo25, .int .i64 resLimit26], .bool false]) ww21) else (
  ∃ (L27a : Option Addr) (L27n : Nat) (L27c : Nat), ww11.cell? ((blk w.heap.size).add 0) = some (.slice L27a L27n L27c) ∧
  L27a.elim False fun a28 =>
  0 ≤ (find8 : Int) ∧ (find8 : Int) < (L27n : Int) ∧
  ∃ (xWho29 : Int) (xPublic30 : Int) (xFrom31 : Int) (xTo32 : Int) (xLimit33 : Int), cellsAt ww11 (a28.add (Int.toNat find8 * 5)) [.int .i64 xWho29, .int .u64 xPublic30, .int .i64 xFrom31, .int .i64 xTo32, .int .i64 xLimit33] 0 ∧
  canStore ww11 ((blk ww4.heap.size).add 0) ∧
  thenW (ww11.setCell ((blk ww4.heap.size).add 0) (.int .i64 xWho29)) fun ww34 =>
  canStore ww34 ((blk ww4.heap.size).add 1) ∧
  thenW (ww34.setCell ((blk ww4.heap.size).add 1) (.int .u64 xPublic30)) fun ww35 =>
  canStore ww35 ((blk ww4.heap.size).add 2) ∧
  thenW (ww35.setCell ((blk ww4.heap.size).add 2) (.int .i64 xFrom31)) fun ww36 =>
  canStore ww36 ((blk ww4.heap.size).add 3) ∧
  thenW (ww36.setCell ((blk ww4.heap.size).add 3) (.int .i64 xTo32)) fun ww37 =>
  canStore ww37 ((blk ww4.heap.size).add 4) ∧
  thenW (ww37.setCell ((blk ww4.heap.size).add 4) (.int .i64 xLimit33)) fun ww38 =>
  ∃ (resWho39 : Int) (resPublic40 : Int) (resFrom41 : Int) (resTo42 : Int) (resLimit43 : Int), cellsAt ww38 (blk ww4.heap.size) [.int .i64 resWho39, .int .u64 resPublic40, .int .i64 resFrom41, .int .i64 resTo42, .int .i64 resLimit43] 0 ∧
  R (.tuple #[.agg #[.int .i64 resWho39, .int .u64 resPublic40, .int .i64 resFrom41, .int .i64 resTo42, .int .i64 resLimit43], .bool true]) ww38)

theorem members_Find.eq (sL1a : Option Addr) (sL1n : Nat) (sL1c : Nat) (sEpoch2 : Int) (who3 : Int) (R : Value → World → Prop) (w : World) : mfunc Try.prog [] 17 [.agg #[.slice sL1a sL1n sL1c, .int .i64 sEpoch2], .int .i64 who3] R w = members_Find.M sL1a sL1n sL1c sEpoch2 who3 R w := by kernel_rfl
theorem members_Find.ok (sL1a : Option Addr) (sL1n : Nat) (sL1c : Nat) (sEpoch2 : Int) (who3 : Int) {R : Value → World → Prop} {w : World} (h : members_Find.M sL1a sL1n sL1c sEpoch2 who3 R w) : Calls Try.prog 17 #[.agg #[.slice sL1a sL1n sL1c, .int .i64 sEpoch2], .int .i64 who3] w fun e w' => ∃ v, e = .returned v ∧ R v w' :=
  mfunc_ok follows (H := []) (args := [.agg #[.slice sL1a sL1n sL1c, .int .i64 sEpoch2], .int .i64 who3]) (by rw [members_Find.eq]; exact h)

def members_Find.N (sL1a : Option Addr) (sL1n : Nat) (sL1c : Nat) (sEpoch2 : Int) (who3 : Int) (R : Value → World → Prop) (w : World) : Prop :=
  ∀ (ww5 : World) (p6 : Nat) (p7 : Nat), Ext no w ww5 → Priv w ww5 [p6, p7] →
  Calls Try.prog 39 #[.agg #[.slice sL1a sL1n sL1c, .int .i64 sEpoch2], .int .i64 who3] ww5 fun ee10 ww11 => ∃ (find8 : Int) (find9 : Bool), ee10 = .returned (.tuple #[.int .i64 find8, .bool find9]) ∧
  Keep [p6, p7] ww5 ww11 ∧
  (find9 = false →
    ∀ (ww17 : World), Ext (fun b => b = p7) ww11 ww17 →
    R (.tuple #[.agg #[.int .i64 0, .int .u64 0, .int .i64 0, .int .i64 0, .int .i64 0], .bool false]) ww17) ∧
  (find9 = true →
    ∃ a18 : Addr, sL1a = some a18 ∧
    0 ≤ (find8 : Int) ∧ (find8 : Int) < (sL1n : Int) ∧
    ∃ (xWho20 : Int) (xPublic21 : Int) (xFrom22 : Int) (xTo23 : Int) (xLimit24 : Int), cellsAt ww11 (a18.add (Int.toNat find8 * 5)) [.int .i64 xWho20, .int .u64 xPublic21, .int .i64 xFrom22, .int .i64 xTo23, .int .i64 xLimit24] 0 ∧
    ∀ (ww29 : World), Ext (fun b => b = p7) ww11 ww29 →
    R (.tuple #[.agg #[.int .i64 xWho20, .int .u64 xPublic21, .int .i64 xFrom22, .int .i64 xTo23, .int .i64 xLimit24], .bool true]) ww29)

theorem members_Find.up (sL1a : Option Addr) (sL1n : Nat) (sL1c : Nat) (sEpoch2 : Int) (who3 : Int) {R : Value → World → Prop} {w : World} (h : members_Find.N sL1a sL1n sL1c sEpoch2 who3 R w) : members_Find.M sL1a sL1n sL1c sEpoch2 who3 R w := by
  unfold members_Find.M
  unfold members_Find.N at h
  refine thenW_in fun ww4 e4 => ?_
  have hb1 := Blk.of_new e4
  have hg1 := ((Ext.refl no w)).size
  have hx4 := (Ext.refl no w).x_alloc e4
  refine thenW_in fun ww5 e5 => ?_
  have hb2 := Blk.of_new e5
  have hg2 := (hx4).size
  have hb1_2 := Nat.ne_of_lt hb1.lt
  have hb1 := hb1.x_alloc e5
  have hx5 := hx4.x_alloc e5
  refine ⟨sL1a, sL1n, sL1c, sEpoch2, ⟨hb1.celli 0 rfl rfl, hb1.celli 1 rfl rfl, trivial⟩, ?_⟩
  have h := h ww5 (w.heap.size) (ww4.heap.size) hx5 (Priv.cons hg1 hb1.lt (Priv.cons hg2 hb2.lt Priv.nil))
  refine h.mono fun ee10 ww11 h => ?_
  obtain ⟨find8, find9, he, hk, h⟩ := h
  refine ⟨find8, find9, he, ?_⟩
  have hb1 := hk.blk hb1 (by simp)
  have hb2 := hk.blk hb2 (by simp)
  refine bif_of (fun c12 => ?_) (fun c12 => ?_)
  · have h := h.1 (not_t c12)
    refine ⟨0, 0, 0, 0, 0, ⟨hb2.celli 0 rfl rfl, hb2.celli 1 rfl rfl, hb2.celli 2 rfl rfl, hb2.celli 3 rfl rfl, hb2.celli 4 rfl rfl, trivial⟩, ?_⟩
    have hm17 : Ext (fun b => b = ww4.heap.size) ww11 ww11 := ((Ext.refl no ww11)).none
    refine ⟨hb2.cani 0 rfl rfl, thenW_in fun ww13 e13 => ?_⟩
    have hx13 := hm17.x_set (q := ww4.heap.size) (i := 0) rfl (.inl rfl) e13
    have hb2 : Blk ww13 ww4.heap.size 49 [.int .i64 0, .int .u64 0, .int .i64 0, .int .i64 0, .int .i64 0] := hb2.seti 0 rfl e13
    refine ⟨hb2.cani 1 rfl rfl, thenW_in fun ww14 e14 => ?_⟩
    have hx14 := hx13.x_set (q := ww4.heap.size) (i := 1) rfl (.inl rfl) e14
    have hb2 : Blk ww14 ww4.heap.size 49 [.int .i64 0, .int .u64 0, .int .i64 0, .int .i64 0, .int .i64 0] := hb2.seti 1 rfl e14
    refine ⟨hb2.cani 2 rfl rfl, thenW_in fun ww15 e15 => ?_⟩
    have hx15 := hx14.x_set (q := ww4.heap.size) (i := 2) rfl (.inl rfl) e15
    have hb2 : Blk ww15 ww4.heap.size 49 [.int .i64 0, .int .u64 0, .int .i64 0, .int .i64 0, .int .i64 0] := hb2.seti 2 rfl e15
    refine ⟨hb2.cani 3 rfl rfl, thenW_in fun ww16 e16 => ?_⟩
    have hx16 := hx15.x_set (q := ww4.heap.size) (i := 3) rfl (.inl rfl) e16
    have hb2 : Blk ww16 ww4.heap.size 49 [.int .i64 0, .int .u64 0, .int .i64 0, .int .i64 0, .int .i64 0] := hb2.seti 3 rfl e16
    refine ⟨hb2.cani 4 rfl rfl, thenW_in fun ww17 e17 => ?_⟩
    have hx17 := hx16.x_set (q := ww4.heap.size) (i := 4) rfl (.inl rfl) e17
    have hb2 : Blk ww17 ww4.heap.size 49 [.int .i64 0, .int .u64 0, .int .i64 0, .int .i64 0, .int .i64 0] := hb2.seti 4 rfl e17
    refine ⟨0, 0, 0, 0, 0, ⟨hb2.celli 0 rfl rfl, hb2.celli 1 rfl rfl, hb2.celli 2 rfl rfl, hb2.celli 3 rfl rfl, hb2.celli 4 rfl rfl, trivial⟩, ?_⟩
    have h := h ww17 hx17
    exact h
  · have h := h.2 (not_f c12)
    refine ⟨sL1a, sL1n, sL1c, hb1.celli 0 rfl rfl, ?_⟩
    obtain ⟨a18, ha18, h⟩ := h
    refine elim_some ha18 ?_
    obtain ⟨hq1, hq2, h⟩ := h
    refine ⟨hq1, hq2, ?_⟩
    obtain ⟨xWho20, xPublic21, xFrom22, xTo23, xLimit24, hc19, h⟩ := h
    refine ⟨xWho20, xPublic21, xFrom22, xTo23, xLimit24, hc19, ?_⟩
    have hm29 : Ext (fun b => b = ww4.heap.size) ww11 ww11 := ((Ext.refl no ww11)).none
    refine ⟨hb2.cani 0 rfl rfl, thenW_in fun ww25 e25 => ?_⟩
    have hx25 := hm29.x_set (q := ww4.heap.size) (i := 0) rfl (.inl rfl) e25
    have hb2 : Blk ww25 ww4.heap.size 49 [.int .i64 xWho20, .int .u64 0, .int .i64 0, .int .i64 0, .int .i64 0] := hb2.seti 0 rfl e25
    refine ⟨hb2.cani 1 rfl rfl, thenW_in fun ww26 e26 => ?_⟩
    have hx26 := hx25.x_set (q := ww4.heap.size) (i := 1) rfl (.inl rfl) e26
    have hb2 : Blk ww26 ww4.heap.size 49 [.int .i64 xWho20, .int .u64 xPublic21, .int .i64 0, .int .i64 0, .int .i64 0] := hb2.seti 1 rfl e26
    refine ⟨hb2.cani 2 rfl rfl, thenW_in fun ww27 e27 => ?_⟩
    have hx27 := hx26.x_set (q := ww4.heap.size) (i := 2) rfl (.inl rfl) e27
    have hb2 : Blk ww27 ww4.heap.size 49 [.int .i64 xWho20, .int .u64 xPublic21, .int .i64 xFrom22, .int .i64 0, .int .i64 0] := hb2.seti 2 rfl e27
    refine ⟨hb2.cani 3 rfl rfl, thenW_in fun ww28 e28 => ?_⟩
    have hx28 := hx27.x_set (q := ww4.heap.size) (i := 3) rfl (.inl rfl) e28
    have hb2 : Blk ww28 ww4.heap.size 49 [.int .i64 xWho20, .int .u64 xPublic21, .int .i64 xFrom22, .int .i64 xTo23, .int .i64 0] := hb2.seti 3 rfl e28
    refine ⟨hb2.cani 4 rfl rfl, thenW_in fun ww29 e29 => ?_⟩
    have hx29 := hx28.x_set (q := ww4.heap.size) (i := 4) rfl (.inl rfl) e29
    have hb2 : Blk ww29 ww4.heap.size 49 [.int .i64 xWho20, .int .u64 xPublic21, .int .i64 xFrom22, .int .i64 xTo23, .int .i64 xLimit24] := hb2.seti 4 rfl e29
    refine ⟨xWho20, xPublic21, xFrom22, xTo23, xLimit24, ⟨hb2.celli 0 rfl rfl, hb2.celli 1 rfl rfl, hb2.celli 2 rfl rfl, hb2.celli 3 rfl rfl, hb2.celli 4 rfl rfl, trivial⟩, ?_⟩
    have h := h ww29 hx29
    exact h

theorem members_Find.go (sL1a : Option Addr) (sL1n : Nat) (sL1c : Nat) (sEpoch2 : Int) (who3 : Int) {R : Value → World → Prop} {w : World} (h : members_Find.N sL1a sL1n sL1c sEpoch2 who3 R w) : Calls Try.prog 17 #[.agg #[.slice sL1a sL1n sL1c, .int .i64 sEpoch2], .int .i64 who3] w fun e w' => ∃ v, e = .returned v ∧ R v w' := members_Find.ok sL1a sL1n sL1c sEpoch2 who3 (members_Find.up sL1a sL1n sL1c sEpoch2 who3 h)
theorem members_Find.run (sL1a : Option Addr) (sL1n : Nat) (sL1c : Nat) (sEpoch2 : Int) (who3 : Int) {V : Value} {Q : World → Prop} {w : World} (h : members_Find.N sL1a sL1n sL1c sEpoch2 who3 (fun v w' => v = V ∧ Q w') w) : Calls Try.prog 17 #[.agg #[.slice sL1a sL1n sL1c, .int .i64 sEpoch2], .int .i64 who3] w (Ret V Q) := (members_Find.go sL1a sL1n sL1c sEpoch2 who3 h).mono fun e w' ⟨v, he, hv, hq⟩ => ⟨by rw [he, hv], hq⟩

/-- members.Now -/
def members_Now.M (sL1a : Option Addr) (sL1n : Nat) (sL1c : Nat) (sEpoch2 : Int) (R : Value → World → Prop) (w : World) : Prop :=
  thenW (w.alloc (.cells #[.slice sL1a sL1n sL1c, .int .i64 sEpoch2] 28)) fun ww3 =>
  ∃ (L4a : Option Addr) (L4n : Nat) (L4c : Nat), ww3.cell? ((blk w.heap.size).add 0) = some (.slice L4a L4n L4c) ∧
  ∃ (I0 : Nat → List Value → World → Prop) (m7 : Nat), I0 m7 [.slice none 0 0, .int .i64 0] ww3 ∧ ∀ (m8 : Nat) (ww9 : World) (outv5a : Option Addr) (outv5n : Nat) (outv5c : Nat) (t6 : Int), I0 m8 [.slice outv5a outv5n outv5c, .int .i64 t6] ww9 →
  bif decide (t6 < (L4n : Int)) then (
  L4a.elim False fun a10 =>
  0 ≤ (t6 : Int) ∧ (t6 : Int) < (L4n : Int) ∧
  ∃ (xWho11 : Int) (xPublic12 : Int) (xFrom13 : Int) (xTo14 : Int) (xLimit15 : Int), cellsAt ww9 (a10.add (Int.toNat t6 * 5)) [.int .i64 xWho11, .int .u64 xPublic12, .int .i64 xFrom13, .int .i64 xTo14, .int .i64 xLimit15] 0 ∧
  thenW (ww9.alloc (.cells #[.int .i64 0, .int .u64 0, .int .i64 0, .int .i64 0, .int .i64 0] 49)) fun ww16 =>
  canStore ww16 ((blk ww9.heap.size).add 0) ∧
  thenW (ww16.setCell ((blk ww9.heap.size).add 0) (.int .i64 xWho11)) fun ww17 =>
  canStore ww17 ((blk ww9.heap.size).add 1) ∧
  thenW (ww17.setCell ((blk ww9.heap.size).add 1) (.int .u64 xPublic12)) fun ww18 =>
  canStore ww18 ((blk ww9.heap.size).add 2) ∧
  thenW (ww18.setCell ((blk ww9.heap.size).add 2) (.int .i64 xFrom13)) fun ww19 =>
  canStore ww19 ((blk ww9.heap.size).add 3) ∧
  thenW (ww19.setCell ((blk ww9.heap.size).add 3) (.int .i64 xTo14)) fun ww20 =>
  canStore ww20 ((blk ww9.heap.size).add 4) ∧
  thenW (ww20.setCell ((blk ww9.heap.size).add 4) (.int .i64 xLimit15)) fun ww21 =>
  ∃ (To22 : Int), ww21.cell? ((blk ww9.heap.size).add 3) = some (.int .i64 To22) ∧
  bif To22 == (-1) then (
  ∃ (xWho23 : Int) (xPublic24 : Int) (xFrom25 : Int) (xTo26 : Int) (xLimit27 : Int), cellsAt ww21 (blk ww9.heap.size) [.int .i64 xWho23, .int .u64 xPublic24, .int .i64 xFrom25, .int .i64 xTo26, .int .i64 xLimit27] 0 ∧
  thenW (ww21.alloc (.cells #[.int .i64 xWho23, .int .u64 xPublic24, .int .i64 xFrom25, .int .i64 xTo26, .int .i64 xLimit27] 49)) fun ww28 =>
  ∃ (a29a : Option Addr) (a29n : Nat) (a29c : Nat) (ww30 : World), (Builtin.append_ #[26, 26] 26 #[.slice outv5a outv5n outv5c, .slice (some (blk ww21.heap.size)) 1 1]).run Try.prog ww28 = .ok (.slice a29a a29n a29c) ww30 ∧
  ∃ m31, m31 < m8 ∧ I0 m31 [.slice a29a a29n a29c, .int .i64 (IntKind.i64.wrap (t6 + 1))] ww30) else (
  ∃ m32, m32 < m8 ∧ I0 m32 [.slice outv5a outv5n outv5c, .int .i64 (IntKind.i64.wrap (t6 + 1))] ww21)) else (
  R (.slice outv5a outv5n outv5c) ww9)

theorem members_Now.eq (sL1a : Option Addr) (sL1n : Nat) (sL1c : Nat) (sEpoch2 : Int) (R : Value → World → Prop) (w : World) : mfunc Try.prog [(0, [6, 7], [(2, (.one .slice)), (8, (.one (.int .i64)))])] 22 [.agg #[.slice sL1a sL1n sL1c, .int .i64 sEpoch2]] R w = members_Now.M sL1a sL1n sL1c sEpoch2 R w := by kernel_rfl
theorem members_Now.ok (sL1a : Option Addr) (sL1n : Nat) (sL1c : Nat) (sEpoch2 : Int) {R : Value → World → Prop} {w : World} (h : members_Now.M sL1a sL1n sL1c sEpoch2 R w) : Calls Try.prog 22 #[.agg #[.slice sL1a sL1n sL1c, .int .i64 sEpoch2]] w fun e w' => ∃ v, e = .returned v ∧ R v w' :=
  mfunc_ok follows (H := [(0, [6, 7], [(2, (.one .slice)), (8, (.one (.int .i64)))])]) (args := [.agg #[.slice sL1a sL1n sL1c, .int .i64 sEpoch2]]) (by rw [members_Now.eq]; exact h)

def members_Now.N (sL1a : Option Addr) (sL1n : Nat) (sL1c : Nat) (sEpoch2 : Int) (R : Value → World → Prop) (w : World) : Prop :=
  ∀ (ww3 : World), Ext no w ww3 →
  ∃ (I0 : Nat → List Value → World → Prop) (m7 : Nat), I0 m7 [.slice none 0 0, .int .i64 0] ww3 ∧ ∀ (m8 : Nat) (ww9 : World) (outv5a : Option Addr) (outv5n : Nat) (outv5c : Nat) (t6 : Int), I0 m8 [.slice outv5a outv5n outv5c, .int .i64 t6] ww9 →
  (t6 < (sL1n : Int) →
    ∃ a11 : Addr, sL1a = some a11 ∧
    0 ≤ (t6 : Int) ∧ (t6 : Int) < (sL1n : Int) ∧
    ∃ (xWho13 : Int) (xPublic14 : Int) (xFrom15 : Int) (xTo16 : Int) (xLimit17 : Int), cellsAt ww9 (a11.add (Int.toNat t6 * 5)) [.int .i64 xWho13, .int .u64 xPublic14, .int .i64 xFrom15, .int .i64 xTo16, .int .i64 xLimit17] 0 ∧
    (xTo16 = (-1) →
      ∀ (ww25 : World) (q26 : Nat), Ext no ww9 ww25 → Blk ww25 q26 49 [.int .i64 xWho13, .int .u64 xPublic14, .int .i64 xFrom15, .int .i64 xTo16, .int .i64 xLimit17] → ww9.heap.size ≤ q26 → q26 < ww25.heap.size →
      ∃ (a28a : Option Addr) (a28n : Nat) (a28c : Nat) (ww29 : World), (Builtin.append_ #[26, 26] 26 #[.slice outv5a outv5n outv5c, .slice (some (blk q26)) 1 1]).run Try.prog ww25 = .ok (.slice a28a a28n a28c) ww29 ∧
      (-9223372036854775808 : Int) ≤ (t6 + 1) ∧ (t6 + 1) < 9223372036854775808 ∧
      ∃ m30, m30 < m8 ∧ I0 m30 [.slice a28a a28n a28c, .int .i64 (t6 + 1)] ww29) ∧
    (xTo16 ≠ (-1) →
      (-9223372036854775808 : Int) ≤ (t6 + 1) ∧ (t6 + 1) < 9223372036854775808 ∧
      ∀ (ww23 : World), Ext no ww9 ww23 →
      ∃ m32, m32 < m8 ∧ I0 m32 [.slice outv5a outv5n outv5c, .int .i64 (t6 + 1)] ww23)) ∧
  ((sL1n : Int) ≤ t6 →
    R (.slice outv5a outv5n outv5c) ww9)

theorem members_Now.up (sL1a : Option Addr) (sL1n : Nat) (sL1c : Nat) (sEpoch2 : Int) {R : Value → World → Prop} {w : World} (h : members_Now.N sL1a sL1n sL1c sEpoch2 R w) : members_Now.M sL1a sL1n sL1c sEpoch2 R w := by
  unfold members_Now.M
  unfold members_Now.N at h
  refine thenW_in fun ww3 e3 => ?_
  have hb1 := Blk.of_new e3
  have hg1 := ((Ext.refl no w)).size
  have hx3 := (Ext.refl no w).x_alloc e3
  refine ⟨sL1a, sL1n, sL1c, hb1.celli 0 rfl rfl, ?_⟩
  have h := h ww3 hx3
  obtain ⟨I0, m7, h0, h⟩ := h
  refine ⟨I0, m7, h0, fun m8 ww9 outv5a outv5n outv5c t6 hI => ?_⟩
  have h := h m8 ww9 outv5a outv5n outv5c t6 hI
  refine bif_of (fun c10 => ?_) (fun c10 => ?_)
  · have h := h.1 (of_decide_eq_true c10)
    obtain ⟨a11, ha11, h⟩ := h
    refine elim_some ha11 ?_
    obtain ⟨hq1, hq2, h⟩ := h
    refine ⟨hq1, hq2, ?_⟩
    obtain ⟨xWho13, xPublic14, xFrom15, xTo16, xLimit17, hc12, h⟩ := h
    refine ⟨xWho13, xPublic14, xFrom15, xTo16, xLimit17, hc12, ?_⟩
    refine thenW_in fun ww18 e18 => ?_
    have hb2 := Blk.of_new e18
    have hg2 := ((Ext.refl no ww9)).size
    have hx18 := (Ext.refl no ww9).x_alloc e18
    refine ⟨hb2.cani 0 rfl rfl, thenW_in fun ww19 e19 => ?_⟩
    have hx19 := hx18.x_set (q := ww9.heap.size) (i := 0) rfl (.inr hg2) e19
    have hb2 : Blk ww19 ww9.heap.size 49 [.int .i64 xWho13, .int .u64 0, .int .i64 0, .int .i64 0, .int .i64 0] := hb2.seti 0 rfl e19
    refine ⟨hb2.cani 1 rfl rfl, thenW_in fun ww20 e20 => ?_⟩
    have hx20 := hx19.x_set (q := ww9.heap.size) (i := 1) rfl (.inr hg2) e20
    have hb2 : Blk ww20 ww9.heap.size 49 [.int .i64 xWho13, .int .u64 xPublic14, .int .i64 0, .int .i64 0, .int .i64 0] := hb2.seti 1 rfl e20
    refine ⟨hb2.cani 2 rfl rfl, thenW_in fun ww21 e21 => ?_⟩
    have hx21 := hx20.x_set (q := ww9.heap.size) (i := 2) rfl (.inr hg2) e21
    have hb2 : Blk ww21 ww9.heap.size 49 [.int .i64 xWho13, .int .u64 xPublic14, .int .i64 xFrom15, .int .i64 0, .int .i64 0] := hb2.seti 2 rfl e21
    refine ⟨hb2.cani 3 rfl rfl, thenW_in fun ww22 e22 => ?_⟩
    have hx22 := hx21.x_set (q := ww9.heap.size) (i := 3) rfl (.inr hg2) e22
    have hb2 : Blk ww22 ww9.heap.size 49 [.int .i64 xWho13, .int .u64 xPublic14, .int .i64 xFrom15, .int .i64 xTo16, .int .i64 0] := hb2.seti 3 rfl e22
    refine ⟨hb2.cani 4 rfl rfl, thenW_in fun ww23 e23 => ?_⟩
    have hx23 := hx22.x_set (q := ww9.heap.size) (i := 4) rfl (.inr hg2) e23
    have hb2 : Blk ww23 ww9.heap.size 49 [.int .i64 xWho13, .int .u64 xPublic14, .int .i64 xFrom15, .int .i64 xTo16, .int .i64 xLimit17] := hb2.seti 4 rfl e23
    refine ⟨xTo16, hb2.celli 3 rfl rfl, ?_⟩
    refine bif_of (fun c24 => ?_) (fun c24 => ?_)
    · have h := h.1 (beq_t c24)
      refine ⟨xWho13, xPublic14, xFrom15, xTo16, xLimit17, ⟨hb2.celli 0 rfl rfl, hb2.celli 1 rfl rfl, hb2.celli 2 rfl rfl, hb2.celli 3 rfl rfl, hb2.celli 4 rfl rfl, trivial⟩, ?_⟩
      refine thenW_in fun ww25 e25 => ?_
      have h := h ww25 ww23.heap.size (hx23.x_alloc e25) (Blk.of_new e25) (hx23).size (size_lt_alloc e25)
      obtain ⟨a28a, a28n, a28c, ww29, hr, h⟩ := h
      refine ⟨a28a, a28n, a28c, ww29, hr, ?_⟩
      obtain ⟨hw1, hw2, h⟩ := h
      try rw [w64 hw1 hw2]
      obtain ⟨m30, hk, h⟩ := h
      exact ⟨m30, hk, h⟩
    · have h := h.2 (beq_f c24)
      obtain ⟨hw1, hw2, h⟩ := h
      try rw [w64 hw1 hw2]
      have h := h ww23 hx23
      obtain ⟨m32, hk, h⟩ := h
      exact ⟨m32, hk, h⟩
  · have h := h.2 (Int.not_lt.1 (of_decide_eq_false c10))
    exact h

theorem members_Now.go (sL1a : Option Addr) (sL1n : Nat) (sL1c : Nat) (sEpoch2 : Int) {R : Value → World → Prop} {w : World} (h : members_Now.N sL1a sL1n sL1c sEpoch2 R w) : Calls Try.prog 22 #[.agg #[.slice sL1a sL1n sL1c, .int .i64 sEpoch2]] w fun e w' => ∃ v, e = .returned v ∧ R v w' := members_Now.ok sL1a sL1n sL1c sEpoch2 (members_Now.up sL1a sL1n sL1c sEpoch2 h)
theorem members_Now.run (sL1a : Option Addr) (sL1n : Nat) (sL1c : Nat) (sEpoch2 : Int) {V : Value} {Q : World → Prop} {w : World} (h : members_Now.N sL1a sL1n sL1c sEpoch2 (fun v w' => v = V ∧ Q w') w) : Calls Try.prog 22 #[.agg #[.slice sL1a sL1n sL1c, .int .i64 sEpoch2]] w (Ret V Q) := (members_Now.go sL1a sL1n sL1c sEpoch2 h).mono fun e w' ⟨v, he, hv, hq⟩ => ⟨by rw [he, hv], hq⟩

/-- members.May -/
def members_May.M (sL1a : Option Addr) (sL1n : Nat) (sL1c : Nat) (sEpoch2 : Int) (who3 : Int) (indexv4 : Int) (epoch5 : Int) (R : Value → World → Prop) (w : World) : Prop :=
  thenW (w.alloc (.cells #[.slice sL1a sL1n sL1c, .int .i64 sEpoch2] 28)) fun ww6 =>
  ∃ (xL7a : Option Addr) (xL7n : Nat) (xL7c : Nat) (xEpoch8 : Int), cellsAt ww6 (blk w.heap.size) [.slice xL7a xL7n xL7c, .int .i64 xEpoch8] 0 ∧
  Calls Try.prog 17 #[.agg #[.slice xL7a xL7n xL7c, .int .i64 xEpoch8], .int .i64 who3] ww6 fun ee15 ww16 => ∃ (Who9 : Int) (Public10 : Int) (From11 : Int) (To12 : Int) (Limit13 : Int) (find14 : Bool), ee15 = .returned (.tuple #[.agg #[.int .i64 Who9, .int .u64 Public10, .int .i64 From11, .int .i64 To12, .int .i64 Limit13], .bool find14]) ∧
  thenW (ww16.alloc (.cells #[.int .i64 0, .int .u64 0, .int .i64 0, .int .i64 0, .int .i64 0] 49)) fun ww17 =>
  canStore ww17 ((blk ww16.heap.size).add 0) ∧
  thenW (ww17.setCell ((blk ww16.heap.size).add 0) (.int .i64 Who9)) fun ww18 =>
  canStore ww18 ((blk ww16.heap.size).add 1) ∧
  thenW (ww18.setCell ((blk ww16.heap.size).add 1) (.int .u64 Public10)) fun ww19 =>
  canStore ww19 ((blk ww16.heap.size).add 2) ∧
  thenW (ww19.setCell ((blk ww16.heap.size).add 2) (.int .i64 From11)) fun ww20 =>
  canStore ww20 ((blk ww16.heap.size).add 3) ∧
  thenW (ww20.setCell ((blk ww16.heap.size).add 3) (.int .i64 To12)) fun ww21 =>
  canStore ww21 ((blk ww16.heap.size).add 4) ∧
  thenW (ww21.setCell ((blk ww16.heap.size).add 4) (.int .i64 Limit13)) fun ww22 =>
  bif !find14 then (
  R (.int .i64 20) ww22) else (
  bif epoch5 == (-1) then (
  bif who3 == 0 then (
  R (.int .i64 0) ww22) else (
  ∃ (Epoch23 : Int), ww22.cell? ((blk w.heap.size).add 1) = some (.int .i64 Epoch23) ∧
  bif decide (epoch5 > Epoch23) then (
  R (.int .i64 7) ww22) else (
  ∃ (From24 : Int), ww22.cell? ((blk ww16.heap.size).add 2) = some (.int .i64 From24) ∧
  bif decide (epoch5 < (if (0 : Int) > From24 then 0 else From24)) then (
  R (.int .i64 10) ww22) else (
  ∃ (To25 : Int), ww22.cell? ((blk ww16.heap.size).add 3) = some (.int .i64 To25) ∧
  bif To25 != (-1) then (
  ∃ (To26 : Int), ww22.cell? ((blk ww16.heap.size).add 3) = some (.int .i64 To26) ∧
  bif decide (epoch5 > To26) then (
  R (.int .i64 10) ww22) else (
  ∃ (Limit27 : Int), ww22.cell? ((blk ww16.heap.size).add 4) = some (.int .i64 Limit27) ∧
  bif decide (indexv4 ≥ Limit27) then (
  R (.int .i64 10) ww22) else (
  R (.int .i64 0) ww22))) else (
  R (.int .i64 0) ww22))))) else (
  ∃ (Epoch28 : Int), ww22.cell? ((blk w.heap.size).add 1) = some (.int .i64 Epoch28) ∧
  bif decide (epoch5 > Epoch28) then (
  R (.int .i64 7) ww22) else (
  ∃ (From29 : Int), ww22.cell? ((blk ww16.heap.size).add 2) = some (.int .i64 From29) ∧
  bif decide (epoch5 < (if (0 : Int) > From29 then 0 else From29)) then (
  R (.int .i64 10) ww22) else (
  ∃ (To30 : Int), ww22.cell? ((blk ww16.heap.size).add 3) = some (.int .i64 To30) ∧
  bif To30 != (-1) then (
  ∃ (To31 : Int), ww22.cell? ((blk ww16.heap.size).add 3) = some (.int .i64 To31) ∧
  bif decide (epoch5 > To31) then (
  R (.int .i64 10) ww22) else (
  ∃ (Limit32 : Int), ww22.cell? ((blk ww16.heap.size).add 4) = some (.int .i64 Limit32) ∧
  bif decide (indexv4 ≥ Limit32) then (
  R (.int .i64 10) ww22) else (
  R (.int .i64 0) ww22))) else (
  R (.int .i64 0) ww22)))))

theorem members_May.eq (sL1a : Option Addr) (sL1n : Nat) (sL1c : Nat) (sEpoch2 : Int) (who3 : Int) (indexv4 : Int) (epoch5 : Int) (R : Value → World → Prop) (w : World) : mfunc Try.prog [] 14 [.agg #[.slice sL1a sL1n sL1c, .int .i64 sEpoch2], .int .i64 who3, .int .i64 indexv4, .int .i64 epoch5] R w = members_May.M sL1a sL1n sL1c sEpoch2 who3 indexv4 epoch5 R w := by kernel_rfl
theorem members_May.ok (sL1a : Option Addr) (sL1n : Nat) (sL1c : Nat) (sEpoch2 : Int) (who3 : Int) (indexv4 : Int) (epoch5 : Int) {R : Value → World → Prop} {w : World} (h : members_May.M sL1a sL1n sL1c sEpoch2 who3 indexv4 epoch5 R w) : Calls Try.prog 14 #[.agg #[.slice sL1a sL1n sL1c, .int .i64 sEpoch2], .int .i64 who3, .int .i64 indexv4, .int .i64 epoch5] w fun e w' => ∃ v, e = .returned v ∧ R v w' :=
  mfunc_ok follows (H := []) (args := [.agg #[.slice sL1a sL1n sL1c, .int .i64 sEpoch2], .int .i64 who3, .int .i64 indexv4, .int .i64 epoch5]) (by rw [members_May.eq]; exact h)

def members_May.N (sL1a : Option Addr) (sL1n : Nat) (sL1c : Nat) (sEpoch2 : Int) (who3 : Int) (indexv4 : Int) (epoch5 : Int) (R : Value → World → Prop) (w : World) : Prop :=
  ∀ (ww6 : World) (p7 : Nat), Ext no w ww6 → Priv w ww6 [p7] →
  Calls Try.prog 17 #[.agg #[.slice sL1a sL1n sL1c, .int .i64 sEpoch2], .int .i64 who3] ww6 fun ee14 ww15 => ∃ (Who8 : Int) (Public9 : Int) (From10 : Int) (To11 : Int) (Limit12 : Int) (find13 : Bool), ee14 = .returned (.tuple #[.agg #[.int .i64 Who8, .int .u64 Public9, .int .i64 From10, .int .i64 To11, .int .i64 Limit12], .bool find13]) ∧
  Keep [p7] ww6 ww15 ∧
  (find13 = false →
    ∀ (ww21 : World), Ext no ww15 ww21 →
    R (.int .i64 20) ww21) ∧
  (find13 = true →
    (epoch5 = (-1) →
      (who3 = 0 →
        ∀ (ww21 : World), Ext no ww15 ww21 →
        R (.int .i64 0) ww21) ∧
      (who3 ≠ 0 →
        (epoch5 > sEpoch2 →
          ∀ (ww21 : World), Ext no ww15 ww21 →
          R (.int .i64 7) ww21) ∧
        (epoch5 ≤ sEpoch2 →
          (epoch5 < (if (0 : Int) > From10 then 0 else From10) →
            ∀ (ww21 : World), Ext no ww15 ww21 →
            R (.int .i64 10) ww21) ∧
          ((if (0 : Int) > From10 then 0 else From10) ≤ epoch5 →
            (To11 ≠ (-1) →
              (epoch5 > To11 →
                ∀ (ww21 : World), Ext no ww15 ww21 →
                R (.int .i64 10) ww21) ∧
              (epoch5 ≤ To11 →
                (indexv4 ≥ Limit12 →
                  ∀ (ww21 : World), Ext no ww15 ww21 →
                  R (.int .i64 10) ww21) ∧
                (indexv4 < Limit12 →
                  ∀ (ww21 : World), Ext no ww15 ww21 →
                  R (.int .i64 0) ww21))) ∧
            (To11 = (-1) →
              ∀ (ww21 : World), Ext no ww15 ww21 →
              R (.int .i64 0) ww21))))) ∧
    (epoch5 ≠ (-1) →
      (epoch5 > sEpoch2 →
        ∀ (ww21 : World), Ext no ww15 ww21 →
        R (.int .i64 7) ww21) ∧
      (epoch5 ≤ sEpoch2 →
        (epoch5 < (if (0 : Int) > From10 then 0 else From10) →
          ∀ (ww21 : World), Ext no ww15 ww21 →
          R (.int .i64 10) ww21) ∧
        ((if (0 : Int) > From10 then 0 else From10) ≤ epoch5 →
          (To11 ≠ (-1) →
            (epoch5 > To11 →
              ∀ (ww21 : World), Ext no ww15 ww21 →
              R (.int .i64 10) ww21) ∧
            (epoch5 ≤ To11 →
              (indexv4 ≥ Limit12 →
                ∀ (ww21 : World), Ext no ww15 ww21 →
                R (.int .i64 10) ww21) ∧
              (indexv4 < Limit12 →
                ∀ (ww21 : World), Ext no ww15 ww21 →
                R (.int .i64 0) ww21))) ∧
          (To11 = (-1) →
            ∀ (ww21 : World), Ext no ww15 ww21 →
            R (.int .i64 0) ww21)))))

theorem members_May.up (sL1a : Option Addr) (sL1n : Nat) (sL1c : Nat) (sEpoch2 : Int) (who3 : Int) (indexv4 : Int) (epoch5 : Int) {R : Value → World → Prop} {w : World} (h : members_May.N sL1a sL1n sL1c sEpoch2 who3 indexv4 epoch5 R w) : members_May.M sL1a sL1n sL1c sEpoch2 who3 indexv4 epoch5 R w := by
  unfold members_May.M
  unfold members_May.N at h
  refine thenW_in fun ww6 e6 => ?_
  have hb1 := Blk.of_new e6
  have hg1 := ((Ext.refl no w)).size
  have hx6 := (Ext.refl no w).x_alloc e6
  refine ⟨sL1a, sL1n, sL1c, sEpoch2, ⟨hb1.celli 0 rfl rfl, hb1.celli 1 rfl rfl, trivial⟩, ?_⟩
  have h := h ww6 (w.heap.size) hx6 (Priv.cons hg1 hb1.lt Priv.nil)
  refine h.mono fun ee14 ww15 h => ?_
  obtain ⟨Who8, Public9, From10, To11, Limit12, find13, he, hk, h⟩ := h
  refine ⟨Who8, Public9, From10, To11, Limit12, find13, he, ?_⟩
  have hb1 := hk.blk hb1 (by simp)
  refine thenW_in fun ww16 e16 => ?_
  have hb2 := Blk.of_new e16
  have hg2 := ((Ext.refl no ww15)).size
  have hb1_2 := Nat.ne_of_lt hb1.lt
  have hb1 := hb1.x_alloc e16
  have hx16 := (Ext.refl no ww15).x_alloc e16
  refine ⟨hb2.cani 0 rfl rfl, thenW_in fun ww17 e17 => ?_⟩
  have hx17 := hx16.x_set (q := ww15.heap.size) (i := 0) rfl (.inr hg2) e17
  have hb1 := hb1.oth (q := ww15.heap.size) (i := 0) rfl hb1_2 e17
  have hb2 : Blk ww17 ww15.heap.size 49 [.int .i64 Who8, .int .u64 0, .int .i64 0, .int .i64 0, .int .i64 0] := hb2.seti 0 rfl e17
  refine ⟨hb2.cani 1 rfl rfl, thenW_in fun ww18 e18 => ?_⟩
  have hx18 := hx17.x_set (q := ww15.heap.size) (i := 1) rfl (.inr hg2) e18
  have hb1 := hb1.oth (q := ww15.heap.size) (i := 1) rfl hb1_2 e18
  have hb2 : Blk ww18 ww15.heap.size 49 [.int .i64 Who8, .int .u64 Public9, .int .i64 0, .int .i64 0, .int .i64 0] := hb2.seti 1 rfl e18
  refine ⟨hb2.cani 2 rfl rfl, thenW_in fun ww19 e19 => ?_⟩
  have hx19 := hx18.x_set (q := ww15.heap.size) (i := 2) rfl (.inr hg2) e19
  have hb1 := hb1.oth (q := ww15.heap.size) (i := 2) rfl hb1_2 e19
  have hb2 : Blk ww19 ww15.heap.size 49 [.int .i64 Who8, .int .u64 Public9, .int .i64 From10, .int .i64 0, .int .i64 0] := hb2.seti 2 rfl e19
  refine ⟨hb2.cani 3 rfl rfl, thenW_in fun ww20 e20 => ?_⟩
  have hx20 := hx19.x_set (q := ww15.heap.size) (i := 3) rfl (.inr hg2) e20
  have hb1 := hb1.oth (q := ww15.heap.size) (i := 3) rfl hb1_2 e20
  have hb2 : Blk ww20 ww15.heap.size 49 [.int .i64 Who8, .int .u64 Public9, .int .i64 From10, .int .i64 To11, .int .i64 0] := hb2.seti 3 rfl e20
  refine ⟨hb2.cani 4 rfl rfl, thenW_in fun ww21 e21 => ?_⟩
  have hx21 := hx20.x_set (q := ww15.heap.size) (i := 4) rfl (.inr hg2) e21
  have hb1 := hb1.oth (q := ww15.heap.size) (i := 4) rfl hb1_2 e21
  have hb2 : Blk ww21 ww15.heap.size 49 [.int .i64 Who8, .int .u64 Public9, .int .i64 From10, .int .i64 To11, .int .i64 Limit12] := hb2.seti 4 rfl e21
  refine bif_of (fun c22 => ?_) (fun c22 => ?_)
  · have h := h.1 (not_t c22)
    have h := h ww21 hx21
    exact h
  · have h := h.2 (not_f c22)
    refine bif_of (fun c24 => ?_) (fun c24 => ?_)
    · have h := h.1 (beq_t c24)
      refine bif_of (fun c25 => ?_) (fun c25 => ?_)
      · have h := h.1 (beq_t c25)
        have h := h ww21 hx21
        exact h
      · have h := h.2 (beq_f c25)
        refine ⟨sEpoch2, hb1.celli 1 rfl rfl, ?_⟩
        refine bif_of (fun c27 => ?_) (fun c27 => ?_)
        · have h := h.1 (of_decide_eq_true c27)
          have h := h ww21 hx21
          exact h
        · have h := h.2 (Int.not_lt.1 (of_decide_eq_false c27))
          refine ⟨From10, hb2.celli 2 rfl rfl, ?_⟩
          refine bif_of (fun c29 => ?_) (fun c29 => ?_)
          · have h := h.1 (of_decide_eq_true c29)
            have h := h ww21 hx21
            exact h
          · have h := h.2 (Int.not_lt.1 (of_decide_eq_false c29))
            refine ⟨To11, hb2.celli 3 rfl rfl, ?_⟩
            refine bif_of (fun c31 => ?_) (fun c31 => ?_)
            · have h := h.1 (bne_t c31)
              refine ⟨To11, hb2.celli 3 rfl rfl, ?_⟩
              refine bif_of (fun c32 => ?_) (fun c32 => ?_)
              · have h := h.1 (of_decide_eq_true c32)
                have h := h ww21 hx21
                exact h
              · have h := h.2 (Int.not_lt.1 (of_decide_eq_false c32))
                refine ⟨Limit12, hb2.celli 4 rfl rfl, ?_⟩
                refine bif_of (fun c34 => ?_) (fun c34 => ?_)
                · have h := h.1 (of_decide_eq_true c34)
                  have h := h ww21 hx21
                  exact h
                · have h := h.2 (Int.not_le.1 (of_decide_eq_false c34))
                  have h := h ww21 hx21
                  exact h
            · have h := h.2 (bne_f c31)
              have h := h ww21 hx21
              exact h
    · have h := h.2 (beq_f c24)
      refine ⟨sEpoch2, hb1.celli 1 rfl rfl, ?_⟩
      refine bif_of (fun c38 => ?_) (fun c38 => ?_)
      · have h := h.1 (of_decide_eq_true c38)
        have h := h ww21 hx21
        exact h
      · have h := h.2 (Int.not_lt.1 (of_decide_eq_false c38))
        refine ⟨From10, hb2.celli 2 rfl rfl, ?_⟩
        refine bif_of (fun c40 => ?_) (fun c40 => ?_)
        · have h := h.1 (of_decide_eq_true c40)
          have h := h ww21 hx21
          exact h
        · have h := h.2 (Int.not_lt.1 (of_decide_eq_false c40))
          refine ⟨To11, hb2.celli 3 rfl rfl, ?_⟩
          refine bif_of (fun c42 => ?_) (fun c42 => ?_)
          · have h := h.1 (bne_t c42)
            refine ⟨To11, hb2.celli 3 rfl rfl, ?_⟩
            refine bif_of (fun c43 => ?_) (fun c43 => ?_)
            · have h := h.1 (of_decide_eq_true c43)
              have h := h ww21 hx21
              exact h
            · have h := h.2 (Int.not_lt.1 (of_decide_eq_false c43))
              refine ⟨Limit12, hb2.celli 4 rfl rfl, ?_⟩
              refine bif_of (fun c45 => ?_) (fun c45 => ?_)
              · have h := h.1 (of_decide_eq_true c45)
                have h := h ww21 hx21
                exact h
              · have h := h.2 (Int.not_le.1 (of_decide_eq_false c45))
                have h := h ww21 hx21
                exact h
          · have h := h.2 (bne_f c42)
            have h := h ww21 hx21
            exact h

theorem members_May.go (sL1a : Option Addr) (sL1n : Nat) (sL1c : Nat) (sEpoch2 : Int) (who3 : Int) (indexv4 : Int) (epoch5 : Int) {R : Value → World → Prop} {w : World} (h : members_May.N sL1a sL1n sL1c sEpoch2 who3 indexv4 epoch5 R w) : Calls Try.prog 14 #[.agg #[.slice sL1a sL1n sL1c, .int .i64 sEpoch2], .int .i64 who3, .int .i64 indexv4, .int .i64 epoch5] w fun e w' => ∃ v, e = .returned v ∧ R v w' := members_May.ok sL1a sL1n sL1c sEpoch2 who3 indexv4 epoch5 (members_May.up sL1a sL1n sL1c sEpoch2 who3 indexv4 epoch5 h)
theorem members_May.run (sL1a : Option Addr) (sL1n : Nat) (sL1c : Nat) (sEpoch2 : Int) (who3 : Int) (indexv4 : Int) (epoch5 : Int) {V : Value} {Q : World → Prop} {w : World} (h : members_May.N sL1a sL1n sL1c sEpoch2 who3 indexv4 epoch5 (fun v w' => v = V ∧ Q w') w) : Calls Try.prog 14 #[.agg #[.slice sL1a sL1n sL1c, .int .i64 sEpoch2], .int .i64 who3, .int .i64 indexv4, .int .i64 epoch5] w (Ret V Q) := (members_May.go sL1a sL1n sL1c sEpoch2 who3 indexv4 epoch5 h).mono fun e w' ⟨v, he, hv, hq⟩ => ⟨by rw [he, hv], hq⟩

/-- slices.BinarySearchFunc[[]members.Member,members.Member,int] -/
def slices_BinarySearchFunc_members_Member_members_Member_int.M (x1a : Option Addr) (x1n : Nat) (x1c : Nat) (target2 : Int) (cmp3k : Nat) (cmp3f : Array Value) (cmp3g : Array Value) (R : Value → World → Prop) (w : World) : Prop :=
  ∃ (I0 : Nat → List Value → World → Prop) (m6 : Nat), I0 m6 [.int .i64 0, .int .i64 (x1n : Int)] w ∧ ∀ (m7 : Nat) (ww8 : World) (i4 : Int) (j5 : Int), I0 m7 [.int .i64 i4, .int .i64 j5] ww8 →
  bif decide (i4 < j5) then (
  0 ≤ (1 : Int) ∧
  x1a.elim False fun a9 =>
  0 ≤ ((IntKind.i64.wrap (Int.fdiv (IntKind.u64.wrap (IntKind.i64.wrap (i4 + j5))) (2 ^ (min (Int.toNat 1) (IntKind.bits .u64))))) : Int) ∧ ((IntKind.i64.wrap (Int.fdiv (IntKind.u64.wrap (IntKind.i64.wrap (i4 + j5))) (2 ^ (min (Int.toNat 1) (IntKind.bits .u64))))) : Int) < (x1n : Int) ∧
  ∃ (xWho10 : Int) (xPublic11 : Int) (xFrom12 : Int) (xTo13 : Int) (xLimit14 : Int), cellsAt ww8 (a9.add (Int.toNat (IntKind.i64.wrap (Int.fdiv (IntKind.u64.wrap (IntKind.i64.wrap (i4 + j5))) (2 ^ (min (Int.toNat 1) (IntKind.bits .u64))))) * 5)) [.int .i64 xWho10, .int .u64 xPublic11, .int .i64 xFrom12, .int .i64 xTo13, .int .i64 xLimit14] 0 ∧
  bif enters Try.prog cmp3k then Calls Try.prog cmp3k (cmp3f.toList ++ ([.agg #[.int .i64 xWho10, .int .u64 xPublic11, .int .i64 xFrom12, .int .i64 xTo13, .int .i64 xLimit14], .int .i64 target2] : List Value) ++ cmp3g.toList).toArray ww8 (fun ee16 ww17 => ∃ (r15 : Int), ee16 = .returned (.int .i64 r15) ∧
  bif decide (r15 < 0) then (
  ∃ m19, m19 < m7 ∧ I0 m19 [.int .i64 (IntKind.i64.wrap ((IntKind.i64.wrap (Int.fdiv (IntKind.u64.wrap (IntKind.i64.wrap (i4 + j5))) (2 ^ (min (Int.toNat 1) (IntKind.bits .u64))))) + 1)), .int .i64 j5] ww17) else (
  ∃ m20, m20 < m7 ∧ I0 m20 [.int .i64 i4, .int .i64 (IntKind.i64.wrap (Int.fdiv (IntKind.u64.wrap (IntKind.i64.wrap (i4 + j5))) (2 ^ (min (Int.toNat 1) (IntKind.bits .u64)))))] ww17)) else (∃ (r15 : Int) (ww18 : World), (externCall cmp3k (cmp3f.toList ++ ([.agg #[.int .i64 xWho10, .int .u64 xPublic11, .int .i64 xFrom12, .int .i64 xTo13, .int .i64 xLimit14], .int .i64 target2] : List Value) ++ cmp3g.toList).toArray).run Try.prog ww8 = .ok (.int .i64 r15) ww18 ∧
  bif decide (r15 < 0) then (
  ∃ m21, m21 < m7 ∧ I0 m21 [.int .i64 (IntKind.i64.wrap ((IntKind.i64.wrap (Int.fdiv (IntKind.u64.wrap (IntKind.i64.wrap (i4 + j5))) (2 ^ (min (Int.toNat 1) (IntKind.bits .u64))))) + 1)), .int .i64 j5] ww18) else (
  ∃ m22, m22 < m7 ∧ I0 m22 [.int .i64 i4, .int .i64 (IntKind.i64.wrap (Int.fdiv (IntKind.u64.wrap (IntKind.i64.wrap (i4 + j5))) (2 ^ (min (Int.toNat 1) (IntKind.bits .u64)))))] ww18))) else (
  bif decide (i4 < (x1n : Int)) then (
  x1a.elim False fun a23 =>
  0 ≤ (i4 : Int) ∧ (i4 : Int) < (x1n : Int) ∧
  ∃ (xWho24 : Int) (xPublic25 : Int) (xFrom26 : Int) (xTo27 : Int) (xLimit28 : Int), cellsAt ww8 (a23.add (Int.toNat i4 * 5)) [.int .i64 xWho24, .int .u64 xPublic25, .int .i64 xFrom26, .int .i64 xTo27, .int .i64 xLimit28] 0 ∧
  bif enters Try.prog cmp3k then Calls Try.prog cmp3k (cmp3f.toList ++ ([.agg #[.int .i64 xWho24, .int .u64 xPublic25, .int .i64 xFrom26, .int .i64 xTo27, .int .i64 xLimit28], .int .i64 target2] : List Value) ++ cmp3g.toList).toArray ww8 (fun ee30 ww31 => ∃ (r29 : Int), ee30 = .returned (.int .i64 r29) ∧
  R (.tuple #[.int .i64 i4, .bool (r29 == 0)]) ww31) else (∃ (r29 : Int) (ww32 : World), (externCall cmp3k (cmp3f.toList ++ ([.agg #[.int .i64 xWho24, .int .u64 xPublic25, .int .i64 xFrom26, .int .i64 xTo27, .int .i64 xLimit28], .int .i64 target2] : List Value) ++ cmp3g.toList).toArray).run Try.prog ww8 = .ok (.int .i64 r29) ww32 ∧
  R (.tuple #[.int .i64 i4, .bool (r29 == 0)]) ww32)) else (
  R (.tuple #[.int .i64 i4, .bool false]) ww8))

theorem slices_BinarySearchFunc_members_Member_members_Member_int.eq (x1a : Option Addr) (x1n : Nat) (x1c : Nat) (target2 : Int) (cmp3k : Nat) (cmp3f : Array Value) (cmp3g : Array Value) (R : Value → World → Prop) (w : World) : mfunc Try.prog [(0, [0, 1, 2, 8], [(9, (.one (.int .i64))), (10, (.one (.int .i64)))])] 61 [.slice x1a x1n x1c, .int .i64 target2, .func (.func cmp3k) cmp3f cmp3g] R w = slices_BinarySearchFunc_members_Member_members_Member_int.M x1a x1n x1c target2 cmp3k cmp3f cmp3g R w := by kernel_rfl
theorem slices_BinarySearchFunc_members_Member_members_Member_int.ok (x1a : Option Addr) (x1n : Nat) (x1c : Nat) (target2 : Int) (cmp3k : Nat) (cmp3f : Array Value) (cmp3g : Array Value) {R : Value → World → Prop} {w : World} (h : slices_BinarySearchFunc_members_Member_members_Member_int.M x1a x1n x1c target2 cmp3k cmp3f cmp3g R w) : Calls Try.prog 61 #[.slice x1a x1n x1c, .int .i64 target2, .func (.func cmp3k) cmp3f cmp3g] w fun e w' => ∃ v, e = .returned v ∧ R v w' :=
  mfunc_ok follows (H := [(0, [0, 1, 2, 8], [(9, (.one (.int .i64))), (10, (.one (.int .i64)))])]) (args := [.slice x1a x1n x1c, .int .i64 target2, .func (.func cmp3k) cmp3f cmp3g]) (by rw [slices_BinarySearchFunc_members_Member_members_Member_int.eq]; exact h)

def slices_BinarySearchFunc_members_Member_members_Member_int.N (x1a : Option Addr) (x1n : Nat) (x1c : Nat) (target2 : Int) (cmp3k : Nat) (cmp3f : Array Value) (cmp3g : Array Value) (R : Value → World → Prop) (w : World) : Prop :=
  ∃ (I0 : Nat → List Value → World → Prop) (m6 : Nat), I0 m6 [.int .i64 0, .int .i64 (x1n : Int)] w ∧ ∀ (m7 : Nat) (ww8 : World) (i4 : Int) (j5 : Int), I0 m7 [.int .i64 i4, .int .i64 j5] ww8 →
  (i4 < j5 →
    (-9223372036854775808 : Int) ≤ (i4 + j5) ∧ (i4 + j5) < 9223372036854775808 ∧
    (-9223372036854775808 : Int) ≤ ((IntKind.u64.wrap (i4 + j5)) / 2) ∧ ((IntKind.u64.wrap (i4 + j5)) / 2) < 9223372036854775808 ∧
    ∃ a10 : Addr, x1a = some a10 ∧
    0 ≤ (((IntKind.u64.wrap (i4 + j5)) / 2) : Int) ∧ (((IntKind.u64.wrap (i4 + j5)) / 2) : Int) < (x1n : Int) ∧
    ∃ (xWho12 : Int) (xPublic13 : Int) (xFrom14 : Int) (xTo15 : Int) (xLimit16 : Int), cellsAt ww8 (a10.add (Int.toNat ((IntKind.u64.wrap (i4 + j5)) / 2) * 5)) [.int .i64 xWho12, .int .u64 xPublic13, .int .i64 xFrom14, .int .i64 xTo15, .int .i64 xLimit16] 0 ∧
    enters Try.prog cmp3k = true ∧ Calls Try.prog cmp3k (cmp3f.toList ++ ([.agg #[.int .i64 xWho12, .int .u64 xPublic13, .int .i64 xFrom14, .int .i64 xTo15, .int .i64 xLimit16], .int .i64 target2] : List Value) ++ cmp3g.toList).toArray ww8 (fun ee18 ww19 => ∃ (r17 : Int), ee18 = .returned (.int .i64 r17) ∧
    (r17 < 0 →
      (-9223372036854775808 : Int) ≤ (((IntKind.u64.wrap (i4 + j5)) / 2) + 1) ∧ (((IntKind.u64.wrap (i4 + j5)) / 2) + 1) < 9223372036854775808 ∧
      ∃ m21, m21 < m7 ∧ I0 m21 [.int .i64 (((IntKind.u64.wrap (i4 + j5)) / 2) + 1), .int .i64 j5] ww19) ∧
    ((0 : Int) ≤ r17 →
      ∃ m22, m22 < m7 ∧ I0 m22 [.int .i64 i4, .int .i64 ((IntKind.u64.wrap (i4 + j5)) / 2)] ww19))) ∧
  (j5 ≤ i4 →
    (i4 < (x1n : Int) →
      ∃ a24 : Addr, x1a = some a24 ∧
      0 ≤ (i4 : Int) ∧ (i4 : Int) < (x1n : Int) ∧
      ∃ (xWho26 : Int) (xPublic27 : Int) (xFrom28 : Int) (xTo29 : Int) (xLimit30 : Int), cellsAt ww8 (a24.add (Int.toNat i4 * 5)) [.int .i64 xWho26, .int .u64 xPublic27, .int .i64 xFrom28, .int .i64 xTo29, .int .i64 xLimit30] 0 ∧
      enters Try.prog cmp3k = true ∧ Calls Try.prog cmp3k (cmp3f.toList ++ ([.agg #[.int .i64 xWho26, .int .u64 xPublic27, .int .i64 xFrom28, .int .i64 xTo29, .int .i64 xLimit30], .int .i64 target2] : List Value) ++ cmp3g.toList).toArray ww8 (fun ee32 ww33 => ∃ (r31 : Int), ee32 = .returned (.int .i64 r31) ∧
      R (.tuple #[.int .i64 i4, .bool (r31 == 0)]) ww33)) ∧
    ((x1n : Int) ≤ i4 →
      R (.tuple #[.int .i64 i4, .bool false]) ww8))

theorem slices_BinarySearchFunc_members_Member_members_Member_int.up (x1a : Option Addr) (x1n : Nat) (x1c : Nat) (target2 : Int) (cmp3k : Nat) (cmp3f : Array Value) (cmp3g : Array Value) {R : Value → World → Prop} {w : World} (h : slices_BinarySearchFunc_members_Member_members_Member_int.N x1a x1n x1c target2 cmp3k cmp3f cmp3g R w) : slices_BinarySearchFunc_members_Member_members_Member_int.M x1a x1n x1c target2 cmp3k cmp3f cmp3g R w := by
  unfold slices_BinarySearchFunc_members_Member_members_Member_int.M
  unfold slices_BinarySearchFunc_members_Member_members_Member_int.N at h
  obtain ⟨I0, m6, h0, h⟩ := h
  refine ⟨I0, m6, h0, fun m7 ww8 i4 j5 hI => ?_⟩
  have h := h m7 ww8 i4 j5 hI
  refine bif_of (fun c9 => ?_) (fun c9 => ?_)
  · have h := h.1 (of_decide_eq_true c9)
    obtain ⟨hw1, hw2, h⟩ := h
    try rw [w64 hw1 hw2]
    refine ⟨by decide, ?_⟩
    try rw [show (2 ^ (min (Int.toNat 1) (IntKind.bits .u64)) : Int) = 2 from rfl]
    try rw [Int.fdiv_eq_ediv_of_nonneg (IntKind.u64.wrap (i4 + j5)) (by decide : (0 : Int) ≤ 2)]
    obtain ⟨hw1, hw2, h⟩ := h
    try rw [w64 hw1 hw2]
    obtain ⟨a10, ha10, h⟩ := h
    refine elim_some ha10 ?_
    obtain ⟨hq1, hq2, h⟩ := h
    refine ⟨hq1, hq2, ?_⟩
    obtain ⟨xWho12, xPublic13, xFrom14, xTo15, xLimit16, hc11, h⟩ := h
    refine ⟨xWho12, xPublic13, xFrom14, xTo15, xLimit16, hc11, ?_⟩
    obtain ⟨hen, h⟩ := h
    refine bif_tt hen ?_
    refine h.mono fun ee18 ww19 h => ?_
    obtain ⟨r17, he, h⟩ := h
    refine ⟨r17, he, ?_⟩
    refine bif_of (fun c20 => ?_) (fun c20 => ?_)
    · have h := h.1 (of_decide_eq_true c20)
      obtain ⟨hw1, hw2, h⟩ := h
      try rw [w64 hw1 hw2]
      obtain ⟨m21, hk, h⟩ := h
      exact ⟨m21, hk, h⟩
    · have h := h.2 (Int.not_lt.1 (of_decide_eq_false c20))
      obtain ⟨m22, hk, h⟩ := h
      exact ⟨m22, hk, h⟩
  · have h := h.2 (Int.not_lt.1 (of_decide_eq_false c9))
    refine bif_of (fun c23 => ?_) (fun c23 => ?_)
    · have h := h.1 (of_decide_eq_true c23)
      obtain ⟨a24, ha24, h⟩ := h
      refine elim_some ha24 ?_
      obtain ⟨hq1, hq2, h⟩ := h
      refine ⟨hq1, hq2, ?_⟩
      obtain ⟨xWho26, xPublic27, xFrom28, xTo29, xLimit30, hc25, h⟩ := h
      refine ⟨xWho26, xPublic27, xFrom28, xTo29, xLimit30, hc25, ?_⟩
      obtain ⟨hen, h⟩ := h
      refine bif_tt hen ?_
      refine h.mono fun ee32 ww33 h => ?_
      obtain ⟨r31, he, h⟩ := h
      refine ⟨r31, he, ?_⟩
      exact h
    · have h := h.2 (Int.not_lt.1 (of_decide_eq_false c23))
      exact h

theorem slices_BinarySearchFunc_members_Member_members_Member_int.go (x1a : Option Addr) (x1n : Nat) (x1c : Nat) (target2 : Int) (cmp3k : Nat) (cmp3f : Array Value) (cmp3g : Array Value) {R : Value → World → Prop} {w : World} (h : slices_BinarySearchFunc_members_Member_members_Member_int.N x1a x1n x1c target2 cmp3k cmp3f cmp3g R w) : Calls Try.prog 61 #[.slice x1a x1n x1c, .int .i64 target2, .func (.func cmp3k) cmp3f cmp3g] w fun e w' => ∃ v, e = .returned v ∧ R v w' := slices_BinarySearchFunc_members_Member_members_Member_int.ok x1a x1n x1c target2 cmp3k cmp3f cmp3g (slices_BinarySearchFunc_members_Member_members_Member_int.up x1a x1n x1c target2 cmp3k cmp3f cmp3g h)
theorem slices_BinarySearchFunc_members_Member_members_Member_int.run (x1a : Option Addr) (x1n : Nat) (x1c : Nat) (target2 : Int) (cmp3k : Nat) (cmp3f : Array Value) (cmp3g : Array Value) {V : Value} {Q : World → Prop} {w : World} (h : slices_BinarySearchFunc_members_Member_members_Member_int.N x1a x1n x1c target2 cmp3k cmp3f cmp3g (fun v w' => v = V ∧ Q w') w) : Calls Try.prog 61 #[.slice x1a x1n x1c, .int .i64 target2, .func (.func cmp3k) cmp3f cmp3g] w (Ret V Q) := (slices_BinarySearchFunc_members_Member_members_Member_int.go x1a x1n x1c target2 cmp3k cmp3f cmp3g h).mono fun e w' ⟨v, he, hv, hq⟩ => ⟨by rw [he, hv], hq⟩

/-- slices.EqualFunc[[]members.Member,[]members.Wrap,members.Member,members.Wrap] -/
def slices_EqualFunc_members_Member_members_Wrap_members_Member_members_Wrap.M (s1a : Option Addr) (s1n : Nat) (s1c : Nat) (s2a : Option Addr) (s2n : Nat) (s2c : Nat) (eq3k : Nat) (eq3f : Array Value) (eq3g : Array Value) (R : Value → World → Prop) (w : World) : Prop :=
  bif (s1n : Int) != (s2n : Int) then (
  R (.bool false) w) else (
  ∃ (I0 : Nat → List Value → World → Prop) (m5 : Nat), I0 m5 [.int .i64 0] w ∧ ∀ (m6 : Nat) (ww7 : World) (t4 : Int), I0 m6 [.int .i64 t4] ww7 →
  bif decide (t4 < (s1n : Int)) then (
  s1a.elim False fun a8 =>
  0 ≤ (t4 : Int) ∧ (t4 : Int) < (s1n : Int) ∧
  ∃ (xWho9 : Int) (xPublic10 : Int) (xFrom11 : Int) (xTo12 : Int) (xLimit13 : Int), cellsAt ww7 (a8.add (Int.toNat t4 * 5)) [.int .i64 xWho9, .int .u64 xPublic10, .int .i64 xFrom11, .int .i64 xTo12, .int .i64 xLimit13] 0 ∧
  thenW (ww7.alloc (.cells #[.int .i64 0, .int .u64 0, .int .i64 0, .int .i64 0, .int .i64 0] 49)) fun ww14 =>
  canStore ww14 ((blk ww7.heap.size).add 0) ∧
  thenW (ww14.setCell ((blk ww7.heap.size).add 0) (.int .i64 xWho9)) fun ww15 =>
  canStore ww15 ((blk ww7.heap.size).add 1) ∧
  thenW (ww15.setCell ((blk ww7.heap.size).add 1) (.int .u64 xPublic10)) fun ww16 =>
  canStore ww16 ((blk ww7.heap.size).add 2) ∧
  thenW (ww16.setCell ((blk ww7.heap.size).add 2) (.int .i64 xFrom11)) fun ww17 =>
  canStore ww17 ((blk ww7.heap.size).add 3) ∧
  thenW (ww17.setCell ((blk ww7.heap.size).add 3) (.int .i64 xTo12)) fun ww18 =>
  canStore ww18 ((blk ww7.heap.size).add 4) ∧
  thenW (ww18.setCell ((blk ww7.heap.size).add 4) (.int .i64 xLimit13)) fun ww19 =>
  s2a.elim False fun a20 =>
  0 ≤ (t4 : Int) ∧ (t4 : Int) < (s2n : Int) ∧
  ∃ (xWho21 : Int) (xB22a : Option Addr) (xB22n : Nat) (xB22c : Nat), cellsAt ww19 (a20.add (Int.toNat t4 * 2)) [.int .i64 xWho21, .slice xB22a xB22n xB22c] 0 ∧
  thenW (ww19.alloc (.cells #[.int .i64 0, .slice none 0 0] 85)) fun ww23 =>
  canStore ww23 ((blk ww19.heap.size).add 0) ∧
  thenW (ww23.setCell ((blk ww19.heap.size).add 0) (.int .i64 xWho21)) fun ww24 =>
  canStore ww24 ((blk ww19.heap.size).add 1) ∧
  thenW (ww24.setCell ((blk ww19.heap.size).add 1) (.slice xB22a xB22n xB22c)) fun ww25 =>
  ∃ (xWho26 : Int) (xPublic27 : Int) (xFrom28 : Int) (xTo29 : Int) (xLimit30 : Int), cellsAt ww25 (blk ww7.heap.size) [.int .i64 xWho26, .int .u64 xPublic27, .int .i64 xFrom28, .int .i64 xTo29, .int .i64 xLimit30] 0 ∧
  ∃ (xWho31 : Int) (xB32a : Option Addr) (xB32n : Nat) (xB32c : Nat), cellsAt ww25 (blk ww19.heap.size) [.int .i64 xWho31, .slice xB32a xB32n xB32c] 0 ∧
  bif enters Try.prog eq3k then Calls Try.prog eq3k (eq3f.toList ++ ([.agg #[.int .i64 xWho26, .int .u64 xPublic27, .int .i64 xFrom28, .int .i64 xTo29, .int .i64 xLimit30], .agg #[.int .i64 xWho31, .slice xB32a xB32n xB32c]] : List Value) ++ eq3g.toList).toArray ww25 (fun ee34 ww35 => ∃ (r33 : Bool), ee34 = .returned (.bool r33) ∧
  bif !r33 then (
  R (.bool false) ww35) else (
  ∃ m37, m37 < m6 ∧ I0 m37 [.int .i64 (IntKind.i64.wrap (t4 + 1))] ww35)) else (∃ (r33 : Bool) (ww36 : World), (externCall eq3k (eq3f.toList ++ ([.agg #[.int .i64 xWho26, .int .u64 xPublic27, .int .i64 xFrom28, .int .i64 xTo29, .int .i64 xLimit30], .agg #[.int .i64 xWho31, .slice xB32a xB32n xB32c]] : List Value) ++ eq3g.toList).toArray).run Try.prog ww25 = .ok (.bool r33) ww36 ∧
  bif !r33 then (
  R (.bool false) ww36) else (
  ∃ m38, m38 < m6 ∧ I0 m38 [.int .i64 (IntKind.i64.wrap (t4 + 1))] ww36))) else (
  R (.bool true) ww7))

theorem slices_EqualFunc_members_Member_members_Wrap_members_Member_members_Wrap.eq (s1a : Option Addr) (s1n : Nat) (s1c : Nat) (s2a : Option Addr) (s2n : Nat) (s2c : Nat) (eq3k : Nat) (eq3f : Array Value) (eq3g : Array Value) (R : Value → World → Prop) (w : World) : mfunc Try.prog [(0, [1, 2, 15, 16], [(17, (.one (.int .i64)))])] 57 [.slice s1a s1n s1c, .slice s2a s2n s2c, .func (.func eq3k) eq3f eq3g] R w = slices_EqualFunc_members_Member_members_Wrap_members_Member_members_Wrap.M s1a s1n s1c s2a s2n s2c eq3k eq3f eq3g R w := by kernel_rfl
theorem slices_EqualFunc_members_Member_members_Wrap_members_Member_members_Wrap.ok (s1a : Option Addr) (s1n : Nat) (s1c : Nat) (s2a : Option Addr) (s2n : Nat) (s2c : Nat) (eq3k : Nat) (eq3f : Array Value) (eq3g : Array Value) {R : Value → World → Prop} {w : World} (h : slices_EqualFunc_members_Member_members_Wrap_members_Member_members_Wrap.M s1a s1n s1c s2a s2n s2c eq3k eq3f eq3g R w) : Calls Try.prog 57 #[.slice s1a s1n s1c, .slice s2a s2n s2c, .func (.func eq3k) eq3f eq3g] w fun e w' => ∃ v, e = .returned v ∧ R v w' :=
  mfunc_ok follows (H := [(0, [1, 2, 15, 16], [(17, (.one (.int .i64)))])]) (args := [.slice s1a s1n s1c, .slice s2a s2n s2c, .func (.func eq3k) eq3f eq3g]) (by rw [slices_EqualFunc_members_Member_members_Wrap_members_Member_members_Wrap.eq]; exact h)

def slices_EqualFunc_members_Member_members_Wrap_members_Member_members_Wrap.N (s1a : Option Addr) (s1n : Nat) (s1c : Nat) (s2a : Option Addr) (s2n : Nat) (s2c : Nat) (eq3k : Nat) (eq3f : Array Value) (eq3g : Array Value) (R : Value → World → Prop) (w : World) : Prop :=
  ((s1n : Int) ≠ (s2n : Int) →
    R (.bool false) w) ∧
  ((s1n : Int) = (s2n : Int) →
    ∃ (I0 : Nat → List Value → World → Prop) (m6 : Nat), I0 m6 [.int .i64 0] w ∧ ∀ (m7 : Nat) (ww8 : World) (t5 : Int), I0 m7 [.int .i64 t5] ww8 →
    (t5 < (s1n : Int) →
      ∃ a10 : Addr, s1a = some a10 ∧
      0 ≤ (t5 : Int) ∧ (t5 : Int) < (s1n : Int) ∧
      ∃ (xWho12 : Int) (xPublic13 : Int) (xFrom14 : Int) (xTo15 : Int) (xLimit16 : Int), cellsAt ww8 (a10.add (Int.toNat t5 * 5)) [.int .i64 xWho12, .int .u64 xPublic13, .int .i64 xFrom14, .int .i64 xTo15, .int .i64 xLimit16] 0 ∧
      ∃ a23 : Addr, s2a = some a23 ∧
      0 ≤ (t5 : Int) ∧ (t5 : Int) < (s2n : Int) ∧
      ∃ (xWho25 : Int) (xB26a : Option Addr) (xB26n : Nat) (xB26c : Nat), cellsAt ww8 (a23.add (Int.toNat t5 * 2)) [.int .i64 xWho25, .slice xB26a xB26n xB26c] 0 ∧
      ∀ (ww29 : World), Ext no ww8 ww29 →
      enters Try.prog eq3k = true ∧ Calls Try.prog eq3k (eq3f.toList ++ ([.agg #[.int .i64 xWho12, .int .u64 xPublic13, .int .i64 xFrom14, .int .i64 xTo15, .int .i64 xLimit16], .agg #[.int .i64 xWho25, .slice xB26a xB26n xB26c]] : List Value) ++ eq3g.toList).toArray ww29 (fun ee33 ww34 => ∃ (r32 : Bool), ee33 = .returned (.bool r32) ∧
      (r32 = false →
        R (.bool false) ww34) ∧
      (r32 = true →
        (-9223372036854775808 : Int) ≤ (t5 + 1) ∧ (t5 + 1) < 9223372036854775808 ∧
        ∃ m36, m36 < m7 ∧ I0 m36 [.int .i64 (t5 + 1)] ww34))) ∧
    ((s1n : Int) ≤ t5 →
      R (.bool true) ww8))

theorem slices_EqualFunc_members_Member_members_Wrap_members_Member_members_Wrap.up (s1a : Option Addr) (s1n : Nat) (s1c : Nat) (s2a : Option Addr) (s2n : Nat) (s2c : Nat) (eq3k : Nat) (eq3f : Array Value) (eq3g : Array Value) {R : Value → World → Prop} {w : World} (h : slices_EqualFunc_members_Member_members_Wrap_members_Member_members_Wrap.N s1a s1n s1c s2a s2n s2c eq3k eq3f eq3g R w) : slices_EqualFunc_members_Member_members_Wrap_members_Member_members_Wrap.M s1a s1n s1c s2a s2n s2c eq3k eq3f eq3g R w := by
  unfold slices_EqualFunc_members_Member_members_Wrap_members_Member_members_Wrap.M
  unfold slices_EqualFunc_members_Member_members_Wrap_members_Member_members_Wrap.N at h
  refine bif_of (fun c4 => ?_) (fun c4 => ?_)
  · have h := h.1 (bne_t c4)
    exact h
  · have h := h.2 (bne_f c4)
    obtain ⟨I0, m6, h0, h⟩ := h
    refine ⟨I0, m6, h0, fun m7 ww8 t5 hI => ?_⟩
    have h := h m7 ww8 t5 hI
    refine bif_of (fun c9 => ?_) (fun c9 => ?_)
    · have h := h.1 (of_decide_eq_true c9)
      obtain ⟨a10, ha10, h⟩ := h
      refine elim_some ha10 ?_
      obtain ⟨hq1, hq2, h⟩ := h
      refine ⟨hq1, hq2, ?_⟩
      obtain ⟨xWho12, xPublic13, xFrom14, xTo15, xLimit16, hc11, h⟩ := h
      refine ⟨xWho12, xPublic13, xFrom14, xTo15, xLimit16, hc11, ?_⟩
      refine thenW_in fun ww17 e17 => ?_
      have hb1 := Blk.of_new e17
      have hg1 := ((Ext.refl no ww8)).size
      have hx17 := (Ext.refl no ww8).x_alloc e17
      refine ⟨hb1.cani 0 rfl rfl, thenW_in fun ww18 e18 => ?_⟩
      have hx18 := hx17.x_set (q := ww8.heap.size) (i := 0) rfl (.inr hg1) e18
      have hb1 : Blk ww18 ww8.heap.size 49 [.int .i64 xWho12, .int .u64 0, .int .i64 0, .int .i64 0, .int .i64 0] := hb1.seti 0 rfl e18
      refine ⟨hb1.cani 1 rfl rfl, thenW_in fun ww19 e19 => ?_⟩
      have hx19 := hx18.x_set (q := ww8.heap.size) (i := 1) rfl (.inr hg1) e19
      have hb1 : Blk ww19 ww8.heap.size 49 [.int .i64 xWho12, .int .u64 xPublic13, .int .i64 0, .int .i64 0, .int .i64 0] := hb1.seti 1 rfl e19
      refine ⟨hb1.cani 2 rfl rfl, thenW_in fun ww20 e20 => ?_⟩
      have hx20 := hx19.x_set (q := ww8.heap.size) (i := 2) rfl (.inr hg1) e20
      have hb1 : Blk ww20 ww8.heap.size 49 [.int .i64 xWho12, .int .u64 xPublic13, .int .i64 xFrom14, .int .i64 0, .int .i64 0] := hb1.seti 2 rfl e20
      refine ⟨hb1.cani 3 rfl rfl, thenW_in fun ww21 e21 => ?_⟩
      have hx21 := hx20.x_set (q := ww8.heap.size) (i := 3) rfl (.inr hg1) e21
      have hb1 : Blk ww21 ww8.heap.size 49 [.int .i64 xWho12, .int .u64 xPublic13, .int .i64 xFrom14, .int .i64 xTo15, .int .i64 0] := hb1.seti 3 rfl e21
      refine ⟨hb1.cani 4 rfl rfl, thenW_in fun ww22 e22 => ?_⟩
      have hx22 := hx21.x_set (q := ww8.heap.size) (i := 4) rfl (.inr hg1) e22
      have hb1 : Blk ww22 ww8.heap.size 49 [.int .i64 xWho12, .int .u64 xPublic13, .int .i64 xFrom14, .int .i64 xTo15, .int .i64 xLimit16] := hb1.seti 4 rfl e22
      obtain ⟨a23, ha23, h⟩ := h
      refine elim_some ha23 ?_
      obtain ⟨hq1, hq2, h⟩ := h
      refine ⟨hq1, hq2, ?_⟩
      obtain ⟨xWho25, xB26a, xB26n, xB26c, hc24, h⟩ := h
      refine ⟨xWho25, xB26a, xB26n, xB26c, cellsAt_no (hx22) hc24, ?_⟩
      refine thenW_in fun ww27 e27 => ?_
      have hb2 := Blk.of_new e27
      have hg2 := (hx22).size
      have hb1_2 := Nat.ne_of_lt hb1.lt
      have hb1 := hb1.x_alloc e27
      have hx27 := hx22.x_alloc e27
      refine ⟨hb2.cani 0 rfl rfl, thenW_in fun ww28 e28 => ?_⟩
      have hx28 := hx27.x_set (q := ww22.heap.size) (i := 0) rfl (.inr hg2) e28
      have hb1 := hb1.oth (q := ww22.heap.size) (i := 0) rfl hb1_2 e28
      have hb2 := hb2.seti 0 rfl e28
      refine ⟨hb2.cani 1 rfl rfl, thenW_in fun ww29 e29 => ?_⟩
      have hx29 := hx28.x_set (q := ww22.heap.size) (i := 1) rfl (.inr hg2) e29
      have hb1 := hb1.oth (q := ww22.heap.size) (i := 1) rfl hb1_2 e29
      have hb2 := hb2.seti 1 rfl e29
      refine ⟨xWho12, xPublic13, xFrom14, xTo15, xLimit16, ⟨hb1.celli 0 rfl rfl, hb1.celli 1 rfl rfl, hb1.celli 2 rfl rfl, hb1.celli 3 rfl rfl, hb1.celli 4 rfl rfl, trivial⟩, ?_⟩
      refine ⟨xWho25, xB26a, xB26n, xB26c, ⟨hb2.celli 0 rfl rfl, hb2.celli 1 rfl rfl, trivial⟩, ?_⟩
      have h := h ww29 hx29
      obtain ⟨hen, h⟩ := h
      refine bif_tt hen ?_
      refine h.mono fun ee33 ww34 h => ?_
      obtain ⟨r32, he, h⟩ := h
      refine ⟨r32, he, ?_⟩
      refine bif_of (fun c35 => ?_) (fun c35 => ?_)
      · have h := h.1 (not_t c35)
        exact h
      · have h := h.2 (not_f c35)
        obtain ⟨hw1, hw2, h⟩ := h
        try rw [w64 hw1 hw2]
        obtain ⟨m36, hk, h⟩ := h
        exact ⟨m36, hk, h⟩
    · have h := h.2 (Int.not_lt.1 (of_decide_eq_false c9))
      exact h

theorem slices_EqualFunc_members_Member_members_Wrap_members_Member_members_Wrap.go (s1a : Option Addr) (s1n : Nat) (s1c : Nat) (s2a : Option Addr) (s2n : Nat) (s2c : Nat) (eq3k : Nat) (eq3f : Array Value) (eq3g : Array Value) {R : Value → World → Prop} {w : World} (h : slices_EqualFunc_members_Member_members_Wrap_members_Member_members_Wrap.N s1a s1n s1c s2a s2n s2c eq3k eq3f eq3g R w) : Calls Try.prog 57 #[.slice s1a s1n s1c, .slice s2a s2n s2c, .func (.func eq3k) eq3f eq3g] w fun e w' => ∃ v, e = .returned v ∧ R v w' := slices_EqualFunc_members_Member_members_Wrap_members_Member_members_Wrap.ok s1a s1n s1c s2a s2n s2c eq3k eq3f eq3g (slices_EqualFunc_members_Member_members_Wrap_members_Member_members_Wrap.up s1a s1n s1c s2a s2n s2c eq3k eq3f eq3g h)
theorem slices_EqualFunc_members_Member_members_Wrap_members_Member_members_Wrap.run (s1a : Option Addr) (s1n : Nat) (s1c : Nat) (s2a : Option Addr) (s2n : Nat) (s2c : Nat) (eq3k : Nat) (eq3f : Array Value) (eq3g : Array Value) {V : Value} {Q : World → Prop} {w : World} (h : slices_EqualFunc_members_Member_members_Wrap_members_Member_members_Wrap.N s1a s1n s1c s2a s2n s2c eq3k eq3f eq3g (fun v w' => v = V ∧ Q w') w) : Calls Try.prog 57 #[.slice s1a s1n s1c, .slice s2a s2n s2c, .func (.func eq3k) eq3f eq3g] w (Ret V Q) := (slices_EqualFunc_members_Member_members_Wrap_members_Member_members_Wrap.go s1a s1n s1c s2a s2n s2c eq3k eq3f eq3g h).mono fun e w' ⟨v, he, hv, hq⟩ => ⟨by rw [he, hv], hq⟩

/-- slices.Clone[[]members.Member,members.Member] -/
def slices_Clone_members_Member_members_Member.M (s1a : Option Addr) (s1n : Nat) (s1c : Nat) (R : Value → World → Prop) (w : World) : Prop :=
  bif Option.isNone s1a then (
  R (.slice none 0 0) w) else (
  thenW (w.alloc (.cells #[] 49)) fun ww2 =>
  ∃ (a3a : Option Addr) (a3n : Nat) (a3c : Nat) (ww4 : World), (Builtin.append_ #[26, 26] 26 #[.slice (some (blk w.heap.size)) 0 0, .slice s1a s1n s1c]).run Try.prog ww2 = .ok (.slice a3a a3n a3c) ww4 ∧
  R (.slice a3a a3n a3c) ww4)

theorem slices_Clone_members_Member_members_Member.eq (s1a : Option Addr) (s1n : Nat) (s1c : Nat) (R : Value → World → Prop) (w : World) : mfunc Try.prog [] 59 [.slice s1a s1n s1c] R w = slices_Clone_members_Member_members_Member.M s1a s1n s1c R w := by kernel_rfl
theorem slices_Clone_members_Member_members_Member.ok (s1a : Option Addr) (s1n : Nat) (s1c : Nat) {R : Value → World → Prop} {w : World} (h : slices_Clone_members_Member_members_Member.M s1a s1n s1c R w) : Calls Try.prog 59 #[.slice s1a s1n s1c] w fun e w' => ∃ v, e = .returned v ∧ R v w' :=
  mfunc_ok follows (H := []) (args := [.slice s1a s1n s1c]) (by rw [slices_Clone_members_Member_members_Member.eq]; exact h)

def slices_Clone_members_Member_members_Member.N (s1a : Option Addr) (s1n : Nat) (s1c : Nat) (R : Value → World → Prop) (w : World) : Prop :=
  (s1a = none →
    R (.slice none 0 0) w) ∧
  (s1a ≠ none →
    ∀ (ww3 : World) (q4 : Nat), Ext no w ww3 → Blk ww3 q4 49 [] → w.heap.size ≤ q4 → q4 < ww3.heap.size →
    ∃ (a5a : Option Addr) (a5n : Nat) (a5c : Nat) (ww6 : World), (Builtin.append_ #[26, 26] 26 #[.slice (some (blk q4)) 0 0, .slice s1a s1n s1c]).run Try.prog ww3 = .ok (.slice a5a a5n a5c) ww6 ∧
    R (.slice a5a a5n a5c) ww6)

theorem slices_Clone_members_Member_members_Member.up (s1a : Option Addr) (s1n : Nat) (s1c : Nat) {R : Value → World → Prop} {w : World} (h : slices_Clone_members_Member_members_Member.N s1a s1n s1c R w) : slices_Clone_members_Member_members_Member.M s1a s1n s1c R w := by
  unfold slices_Clone_members_Member_members_Member.M
  unfold slices_Clone_members_Member_members_Member.N at h
  refine bif_of (fun c2 => ?_) (fun c2 => ?_)
  · have h := h.1 (isNone_t c2)
    exact h
  · have h := h.2 (isNone_f c2)
    refine thenW_in fun ww3 e3 => ?_
    have h := h ww3 w.heap.size ((Ext.refl no w).x_alloc e3) (Blk.of_new e3) ((Ext.refl no w)).size (size_lt_alloc e3)
    obtain ⟨a5a, a5n, a5c, ww6, hr, h⟩ := h
    refine ⟨a5a, a5n, a5c, ww6, hr, ?_⟩
    exact h

theorem slices_Clone_members_Member_members_Member.go (s1a : Option Addr) (s1n : Nat) (s1c : Nat) {R : Value → World → Prop} {w : World} (h : slices_Clone_members_Member_members_Member.N s1a s1n s1c R w) : Calls Try.prog 59 #[.slice s1a s1n s1c] w fun e w' => ∃ v, e = .returned v ∧ R v w' := slices_Clone_members_Member_members_Member.ok s1a s1n s1c (slices_Clone_members_Member_members_Member.up s1a s1n s1c h)
theorem slices_Clone_members_Member_members_Member.run (s1a : Option Addr) (s1n : Nat) (s1c : Nat) {V : Value} {Q : World → Prop} {w : World} (h : slices_Clone_members_Member_members_Member.N s1a s1n s1c (fun v w' => v = V ∧ Q w') w) : Calls Try.prog 59 #[.slice s1a s1n s1c] w (Ret V Q) := (slices_Clone_members_Member_members_Member.go s1a s1n s1c h).mono fun e w' ⟨v, he, hv, hq⟩ => ⟨by rw [he, hv], hq⟩

/-- slices.Insert[[]members.Member,members.Member] -/
def slices_Insert_members_Member_members_Member.M (s1a : Option Addr) (s1n : Nat) (s1c : Nat) (i2 : Int) (v3a : Option Addr) (v3n : Nat) (v3c : Nat) (R : Value → World → Prop) (w : World) : Prop :=
  (0 : Int) ≤ (i2 : Int) ∧ (i2 : Int) ≤ (s1n : Int) ∧
  bif (v3n : Int) == 0 then (
  R (.slice s1a s1n s1c) w) else (
  bif i2 == (s1n : Int) then (
  ∃ (a4a : Option Addr) (a4n : Nat) (a4c : Nat) (ww5 : World), (Builtin.append_ #[26, 26] 26 #[.slice s1a s1n s1c, .slice v3a v3n v3c]).run Try.prog w = .ok (.slice a4a a4n a4c) ww5 ∧
  R (.slice a4a a4n a4c) ww5) else (
  bif decide ((IntKind.i64.wrap ((s1n : Int) + (v3n : Int))) > (s1c : Int)) then (
  (0 : Int) ≤ (i2 : Int) ∧ (i2 : Int) ≤ (s1c : Int) ∧
  ∃ (a6a : Option Addr) (a6n : Nat) (a6c : Nat) (ww7 : World), (Builtin.append_ #[26, 3] 26 #[.slice (if s1c = 0 then s1a else Option.map (fun z : Addr => z.add (0 * 5)) s1a) ((Int.toNat i2) - 0) (s1c - 0), .int .i64 (IntKind.i64.wrap ((IntKind.i64.wrap ((s1n : Int) + (v3n : Int))) - i2))]).run Try.prog w = .ok (.slice a6a a6n a6c) ww7 ∧
  (0 : Int) ≤ (i2 : Int) ∧ (i2 : Int) ≤ (a6n : Int) ∧
  ∃ (c8 : Int) (ww9 : World), (Builtin.copy_ #[26, 26] 3 #[.slice (if a6c = Int.toNat i2 then a6a else Option.map (fun z : Addr => z.add ((Int.toNat i2) * 5)) a6a) (a6n - (Int.toNat i2)) (a6c - (Int.toNat i2)), .slice v3a v3n v3c]).run Try.prog ww7 = .ok (.int .i64 c8) ww9 ∧
  thenW (ww9.drew) fun ww10 =>
  (0 : Int) ≤ ((IntKind.i64.wrap (i2 + (v3n : Int))) : Int) ∧ ((IntKind.i64.wrap (i2 + (v3n : Int))) : Int) ≤ (a6n : Int) ∧
  (0 : Int) ≤ (i2 : Int) ∧ (i2 : Int) ≤ (s1n : Int) ∧
  ∃ (c11 : Int) (ww12 : World), (Builtin.copy_ #[26, 26] 3 #[.slice (if a6c = Int.toNat (IntKind.i64.wrap (i2 + (v3n : Int))) then a6a else Option.map (fun z : Addr => z.add ((Int.toNat (IntKind.i64.wrap (i2 + (v3n : Int)))) * 5)) a6a) (a6n - (Int.toNat (IntKind.i64.wrap (i2 + (v3n : Int))))) (a6c - (Int.toNat (IntKind.i64.wrap (i2 + (v3n : Int))))), .slice (if s1c = Int.toNat i2 then s1a else Option.map (fun z : Addr => z.add ((Int.toNat i2) * 5)) s1a) (s1n - (Int.toNat i2)) (s1c - (Int.toNat i2))]).run Try.prog ww10 = .ok (.int .i64 c11) ww12 ∧
  R (.slice a6a a6n a6c) ww12) else (
  (0 : Int) ≤ ((IntKind.i64.wrap ((s1n : Int) + (v3n : Int))) : Int) ∧ ((IntKind.i64.wrap ((s1n : Int) + (v3n : Int))) : Int) ≤ (s1c : Int) ∧
  (0 : Int) ≤ ((IntKind.i64.wrap (i2 + (v3n : Int))) : Int) ∧ ((IntKind.i64.wrap (i2 + (v3n : Int))) : Int) ≤ (((Int.toNat (IntKind.i64.wrap ((s1n : Int) + (v3n : Int)))) - 0) : Int) ∧
  ∃ (overlaps13 : Bool) (ww16 : World), (externCall 74 #[.slice v3a v3n v3c, .slice (if s1c - 0 = Int.toNat (IntKind.i64.wrap (i2 + (v3n : Int))) then if s1c = 0 then s1a else Option.map (fun z : Addr => z.add (0 * 5)) s1a else Option.map (fun z : Addr => z.add ((Int.toNat (IntKind.i64.wrap (i2 + (v3n : Int)))) * 5)) (if s1c = 0 then s1a else Option.map (fun z : Addr => z.add (0 * 5)) s1a)) (((Int.toNat (IntKind.i64.wrap ((s1n : Int) + (v3n : Int)))) - 0) - (Int.toNat (IntKind.i64.wrap (i2 + (v3n : Int))))) ((s1c - 0) - (Int.toNat (IntKind.i64.wrap (i2 + (v3n : Int)))))]).run Try.prog w = .ok (.bool overlaps13) ww16 ∧
  bif !overlaps13 then (
  thenW (ww16.drew) fun ww17 =>
  (0 : Int) ≤ ((IntKind.i64.wrap (i2 + (v3n : Int))) : Int) ∧ ((IntKind.i64.wrap (i2 + (v3n : Int))) : Int) ≤ (((Int.toNat (IntKind.i64.wrap ((s1n : Int) + (v3n : Int)))) - 0) : Int) ∧
  (0 : Int) ≤ (i2 : Int) ∧ (i2 : Int) ≤ (((Int.toNat (IntKind.i64.wrap ((s1n : Int) + (v3n : Int)))) - 0) : Int) ∧
  ∃ (c18 : Int) (ww19 : World), (Builtin.copy_ #[26, 26] 3 #[.slice (if s1c - 0 = Int.toNat (IntKind.i64.wrap (i2 + (v3n : Int))) then if s1c = 0 then s1a else Option.map (fun z : Addr => z.add (0 * 5)) s1a else Option.map (fun z : Addr => z.add ((Int.toNat (IntKind.i64.wrap (i2 + (v3n : Int)))) * 5)) (if s1c = 0 then s1a else Option.map (fun z : Addr => z.add (0 * 5)) s1a)) (((Int.toNat (IntKind.i64.wrap ((s1n : Int) + (v3n : Int)))) - 0) - (Int.toNat (IntKind.i64.wrap (i2 + (v3n : Int))))) ((s1c - 0) - (Int.toNat (IntKind.i64.wrap (i2 + (v3n : Int))))), .slice (if s1c - 0 = Int.toNat i2 then if s1c = 0 then s1a else Option.map (fun z : Addr => z.add (0 * 5)) s1a else Option.map (fun z : Addr => z.add ((Int.toNat i2) * 5)) (if s1c = 0 then s1a else Option.map (fun z : Addr => z.add (0 * 5)) s1a)) (((Int.toNat (IntKind.i64.wrap ((s1n : Int) + (v3n : Int)))) - 0) - (Int.toNat i2)) ((s1c - 0) - (Int.toNat i2))]).run Try.prog ww17 = .ok (.int .i64 c18) ww19 ∧
  (0 : Int) ≤ (i2 : Int) ∧ (i2 : Int) ≤ (((Int.toNat (IntKind.i64.wrap ((s1n : Int) + (v3n : Int)))) - 0) : Int) ∧
  ∃ (c20 : Int) (ww21 : World), (Builtin.copy_ #[26, 26] 3 #[.slice (if s1c - 0 = Int.toNat i2 then if s1c = 0 then s1a else Option.map (fun z : Addr => z.add (0 * 5)) s1a else Option.map (fun z : Addr => z.add ((Int.toNat i2) * 5)) (if s1c = 0 then s1a else Option.map (fun z : Addr => z.add (0 * 5)) s1a)) (((Int.toNat (IntKind.i64.wrap ((s1n : Int) + (v3n : Int)))) - 0) - (Int.toNat i2)) ((s1c - 0) - (Int.toNat i2)), .slice v3a v3n v3c]).run Try.prog ww19 = .ok (.int .i64 c20) ww21 ∧
  R (.slice (if s1c = 0 then s1a else Option.map (fun z : Addr => z.add (0 * 5)) s1a) ((Int.toNat (IntKind.i64.wrap ((s1n : Int) + (v3n : Int)))) - 0) (s1c - 0)) ww21) else (
  (0 : Int) ≤ ((s1n : Int) : Int) ∧ ((s1n : Int) : Int) ≤ (((Int.toNat (IntKind.i64.wrap ((s1n : Int) + (v3n : Int)))) - 0) : Int) ∧
  ∃ (c22 : Int) (ww23 : World), (Builtin.copy_ #[26, 26] 3 #[.slice (if s1c - 0 = Int.toNat (s1n : Int) then if s1c = 0 then s1a else Option.map (fun z : Addr => z.add (0 * 5)) s1a else Option.map (fun z : Addr => z.add ((Int.toNat (s1n : Int)) * 5)) (if s1c = 0 then s1a else Option.map (fun z : Addr => z.add (0 * 5)) s1a)) (((Int.toNat (IntKind.i64.wrap ((s1n : Int) + (v3n : Int)))) - 0) - (Int.toNat (s1n : Int))) ((s1c - 0) - (Int.toNat (s1n : Int))), .slice v3a v3n v3c]).run Try.prog ww16 = .ok (.int .i64 c22) ww23 ∧
  (0 : Int) ≤ (i2 : Int) ∧ (i2 : Int) ≤ (((Int.toNat (IntKind.i64.wrap ((s1n : Int) + (v3n : Int)))) - 0) : Int) ∧
  Calls Try.prog 75 #[.slice (if s1c - 0 = Int.toNat i2 then if s1c = 0 then s1a else Option.map (fun z : Addr => z.add (0 * 5)) s1a else Option.map (fun z : Addr => z.add ((Int.toNat i2) * 5)) (if s1c = 0 then s1a else Option.map (fun z : Addr => z.add (0 * 5)) s1a)) (((Int.toNat (IntKind.i64.wrap ((s1n : Int) + (v3n : Int)))) - 0) - (Int.toNat i2)) ((s1c - 0) - (Int.toNat i2)), .int .i64 (v3n : Int)] ww23 fun ee24 ww25 => ee24 = .returned (.tuple #[]) ∧
  R (.slice (if s1c = 0 then s1a else Option.map (fun z : Addr => z.add (0 * 5)) s1a) ((Int.toNat (IntKind.i64.wrap ((s1n : Int) + (v3n : Int)))) - 0) (s1c - 0)) ww25))))

theorem slices_Insert_members_Member_members_Member.eq (s1a : Option Addr) (s1n : Nat) (s1c : Nat) (i2 : Int) (v3a : Option Addr) (v3n : Nat) (v3c : Nat) (R : Value → World → Prop) (w : World) : mfunc Try.prog [] 60 [.slice s1a s1n s1c, .int .i64 i2, .slice v3a v3n v3c] R w = slices_Insert_members_Member_members_Member.M s1a s1n s1c i2 v3a v3n v3c R w := by kernel_rfl
theorem slices_Insert_members_Member_members_Member.ok (s1a : Option Addr) (s1n : Nat) (s1c : Nat) (i2 : Int) (v3a : Option Addr) (v3n : Nat) (v3c : Nat) {R : Value → World → Prop} {w : World} (h : slices_Insert_members_Member_members_Member.M s1a s1n s1c i2 v3a v3n v3c R w) : Calls Try.prog 60 #[.slice s1a s1n s1c, .int .i64 i2, .slice v3a v3n v3c] w fun e w' => ∃ v, e = .returned v ∧ R v w' :=
  mfunc_ok follows (H := []) (args := [.slice s1a s1n s1c, .int .i64 i2, .slice v3a v3n v3c]) (by rw [slices_Insert_members_Member_members_Member.eq]; exact h)

def slices_Insert_members_Member_members_Member.N (s1a : Option Addr) (s1n : Nat) (s1c : Nat) (i2 : Int) (v3a : Option Addr) (v3n : Nat) (v3c : Nat) (R : Value → World → Prop) (w : World) : Prop :=
  (0 : Int) ≤ (i2 : Int) ∧ (i2 : Int) ≤ (s1n : Int) ∧ 
  ((v3n : Int) = 0 →
    R (.slice s1a s1n s1c) w) ∧
  ((v3n : Int) ≠ 0 →
    (i2 = (s1n : Int) →
      ∃ (a6a : Option Addr) (a6n : Nat) (a6c : Nat) (ww7 : World), (Builtin.append_ #[26, 26] 26 #[.slice s1a s1n s1c, .slice v3a v3n v3c]).run Try.prog w = .ok (.slice a6a a6n a6c) ww7 ∧
      R (.slice a6a a6n a6c) ww7) ∧
    (i2 ≠ (s1n : Int) →
      (-9223372036854775808 : Int) ≤ ((s1n : Int) + (v3n : Int)) ∧ ((s1n : Int) + (v3n : Int)) < 9223372036854775808 ∧
      (((s1n : Int) + (v3n : Int)) > (s1c : Int) →
        (0 : Int) ≤ (i2 : Int) ∧ (i2 : Int) ≤ (s1c : Int) ∧ 
        (-9223372036854775808 : Int) ≤ ((s1n : Int) + (v3n : Int)) ∧ ((s1n : Int) + (v3n : Int)) < 9223372036854775808 ∧
        (-9223372036854775808 : Int) ≤ (((s1n : Int) + (v3n : Int)) - i2) ∧ (((s1n : Int) + (v3n : Int)) - i2) < 9223372036854775808 ∧
        ∃ (a9a : Option Addr) (a9n : Nat) (a9c : Nat) (ww10 : World), (Builtin.append_ #[26, 3] 26 #[.slice s1a (Int.toNat i2) s1c, .int .i64 (((s1n : Int) + (v3n : Int)) - i2)]).run Try.prog w = .ok (.slice a9a a9n a9c) ww10 ∧
        (0 : Int) ≤ (i2 : Int) ∧ (i2 : Int) ≤ (a9n : Int) ∧ 
        ∃ (c11 : Int) (ww12 : World), (Builtin.copy_ #[26, 26] 3 #[.slice (cutA a9a a9c (Int.toNat i2) 5) (a9n - (Int.toNat i2)) (a9c - (Int.toNat i2)), .slice v3a v3n v3c]).run Try.prog ww10 = .ok (.int .i64 c11) ww12 ∧
        (-9223372036854775808 : Int) ≤ (i2 + (v3n : Int)) ∧ (i2 + (v3n : Int)) < 9223372036854775808 ∧
        (0 : Int) ≤ ((i2 + (v3n : Int)) : Int) ∧ ((i2 + (v3n : Int)) : Int) ≤ (a9n : Int) ∧ 
        (0 : Int) ≤ (i2 : Int) ∧ (i2 : Int) ≤ (s1n : Int) ∧ 
        ∀ (ww13 : World), Ext no ww12 ww13 →
        ∃ (c14 : Int) (ww15 : World), (Builtin.copy_ #[26, 26] 3 #[.slice (cutA a9a a9c (Int.toNat (i2 + (v3n : Int))) 5) (a9n - (Int.toNat (i2 + (v3n : Int)))) (a9c - (Int.toNat (i2 + (v3n : Int)))), .slice (cutA s1a s1c (Int.toNat i2) 5) (s1n - (Int.toNat i2)) (s1c - (Int.toNat i2))]).run Try.prog ww13 = .ok (.int .i64 c14) ww15 ∧
        R (.slice a9a a9n a9c) ww15) ∧
      (((s1n : Int) + (v3n : Int)) ≤ (s1c : Int) →
        (-9223372036854775808 : Int) ≤ ((s1n : Int) + (v3n : Int)) ∧ ((s1n : Int) + (v3n : Int)) < 9223372036854775808 ∧
        (0 : Int) ≤ (((s1n : Int) + (v3n : Int)) : Int) ∧ (((s1n : Int) + (v3n : Int)) : Int) ≤ (s1c : Int) ∧ 
        (-9223372036854775808 : Int) ≤ (i2 + (v3n : Int)) ∧ (i2 + (v3n : Int)) < 9223372036854775808 ∧
        (0 : Int) ≤ ((i2 + (v3n : Int)) : Int) ∧ ((i2 + (v3n : Int)) : Int) ≤ ((Int.toNat ((s1n : Int) + (v3n : Int))) : Int) ∧ 
        ∃ (x16 : Bool) (ww17 : World), (externCall 74 #[.slice v3a v3n v3c, .slice (cutA s1a s1c (Int.toNat (i2 + (v3n : Int))) 5) ((Int.toNat ((s1n : Int) + (v3n : Int))) - (Int.toNat (i2 + (v3n : Int)))) (s1c - (Int.toNat (i2 + (v3n : Int))))]).run Try.prog w = .ok (.bool x16) ww17 ∧
        (x16 = false →
          (-9223372036854775808 : Int) ≤ (i2 + (v3n : Int)) ∧ (i2 + (v3n : Int)) < 9223372036854775808 ∧
          (0 : Int) ≤ ((i2 + (v3n : Int)) : Int) ∧ ((i2 + (v3n : Int)) : Int) ≤ ((Int.toNat ((s1n : Int) + (v3n : Int))) : Int) ∧ 
          (0 : Int) ≤ (i2 : Int) ∧ (i2 : Int) ≤ ((Int.toNat ((s1n : Int) + (v3n : Int))) : Int) ∧ 
          ∀ (ww19 : World), Ext no ww17 ww19 →
          ∃ (c20 : Int) (ww21 : World), (Builtin.copy_ #[26, 26] 3 #[.slice (cutA s1a s1c (Int.toNat (i2 + (v3n : Int))) 5) ((Int.toNat ((s1n : Int) + (v3n : Int))) - (Int.toNat (i2 + (v3n : Int)))) (s1c - (Int.toNat (i2 + (v3n : Int)))), .slice (cutA s1a s1c (Int.toNat i2) 5) ((Int.toNat ((s1n : Int) + (v3n : Int))) - (Int.toNat i2)) (s1c - (Int.toNat i2))]).run Try.prog ww19 = .ok (.int .i64 c20) ww21 ∧
          (0 : Int) ≤ (i2 : Int) ∧ (i2 : Int) ≤ ((Int.toNat ((s1n : Int) + (v3n : Int))) : Int) ∧ 
          ∃ (c22 : Int) (ww23 : World), (Builtin.copy_ #[26, 26] 3 #[.slice (cutA s1a s1c (Int.toNat i2) 5) ((Int.toNat ((s1n : Int) + (v3n : Int))) - (Int.toNat i2)) (s1c - (Int.toNat i2)), .slice v3a v3n v3c]).run Try.prog ww21 = .ok (.int .i64 c22) ww23 ∧
          R (.slice s1a (Int.toNat ((s1n : Int) + (v3n : Int))) s1c) ww23) ∧
        (x16 = true →
          (0 : Int) ≤ ((s1n : Int) : Int) ∧ ((s1n : Int) : Int) ≤ ((Int.toNat ((s1n : Int) + (v3n : Int))) : Int) ∧ 
          ∃ (c24 : Int) (ww25 : World), (Builtin.copy_ #[26, 26] 3 #[.slice (cutA s1a s1c (Int.toNat (s1n : Int)) 5) ((Int.toNat ((s1n : Int) + (v3n : Int))) - (Int.toNat (s1n : Int))) (s1c - (Int.toNat (s1n : Int))), .slice v3a v3n v3c]).run Try.prog ww17 = .ok (.int .i64 c24) ww25 ∧
          (0 : Int) ≤ (i2 : Int) ∧ (i2 : Int) ≤ ((Int.toNat ((s1n : Int) + (v3n : Int))) : Int) ∧ 
          Calls Try.prog 75 #[.slice (cutA s1a s1c (Int.toNat i2) 5) ((Int.toNat ((s1n : Int) + (v3n : Int))) - (Int.toNat i2)) (s1c - (Int.toNat i2)), .int .i64 (v3n : Int)] ww25 fun ee26 ww27 => ee26 = .returned (.tuple #[]) ∧
          R (.slice s1a (Int.toNat ((s1n : Int) + (v3n : Int))) s1c) ww27))))

theorem slices_Insert_members_Member_members_Member.up (s1a : Option Addr) (s1n : Nat) (s1c : Nat) (i2 : Int) (v3a : Option Addr) (v3n : Nat) (v3c : Nat) {R : Value → World → Prop} {w : World} (h : slices_Insert_members_Member_members_Member.N s1a s1n s1c i2 v3a v3n v3c R w) : slices_Insert_members_Member_members_Member.M s1a s1n s1c i2 v3a v3n v3c R w := by
  unfold slices_Insert_members_Member_members_Member.M
  unfold slices_Insert_members_Member_members_Member.N at h
  obtain ⟨hq0, hq1, h⟩ := h
  refine ⟨hq0, hq1, ?_⟩
  refine bif_of (fun c4 => ?_) (fun c4 => ?_)
  · have h := h.1 (beq_t c4)
    exact h
  · have h := h.2 (beq_f c4)
    refine bif_of (fun c5 => ?_) (fun c5 => ?_)
    · have h := h.1 (beq_t c5)
      obtain ⟨a6a, a6n, a6c, ww7, hr, h⟩ := h
      refine ⟨a6a, a6n, a6c, ww7, hr, ?_⟩
      exact h
    · have h := h.2 (beq_f c5)
      obtain ⟨hw1, hw2, h⟩ := h
      try rw [w64 hw1 hw2]
      refine bif_of (fun c8 => ?_) (fun c8 => ?_)
      · have h := h.1 (of_decide_eq_true c8)
        obtain ⟨hq0, hq1, h⟩ := h
        refine ⟨hq0, hq1, ?_⟩
        try rw [cut_zero]
        obtain ⟨hw1, hw2, h⟩ := h
        try rw [w64 hw1 hw2]
        obtain ⟨hw1, hw2, h⟩ := h
        try rw [w64 hw1 hw2]
        obtain ⟨a9a, a9n, a9c, ww10, hr, h⟩ := h
        refine ⟨a9a, a9n, a9c, ww10, hr, ?_⟩
        obtain ⟨hq0, hq1, h⟩ := h
        refine ⟨hq0, hq1, ?_⟩
        obtain ⟨c11, ww12, hr, h⟩ := h
        refine ⟨c11, ww12, hr, ?_⟩
        refine thenW_in fun ww13 e13 => ?_
        have hx13 := (Ext.refl no ww12).x_drew e13
        obtain ⟨hw1, hw2, h⟩ := h
        try rw [w64 hw1 hw2]
        obtain ⟨hq0, hq1, h⟩ := h
        refine ⟨hq0, hq1, ?_⟩
        obtain ⟨hq0, hq1, h⟩ := h
        refine ⟨hq0, hq1, ?_⟩
        have h := h ww13 hx13
        obtain ⟨c14, ww15, hr, h⟩ := h
        refine ⟨c14, ww15, hr, ?_⟩
        exact h
      · have h := h.2 (Int.not_lt.1 (of_decide_eq_false c8))
        obtain ⟨hw1, hw2, h⟩ := h
        try rw [w64 hw1 hw2]
        obtain ⟨hq0, hq1, h⟩ := h
        refine ⟨hq0, hq1, ?_⟩
        try rw [cut_zero]
        obtain ⟨hw1, hw2, h⟩ := h
        try rw [w64 hw1 hw2]
        obtain ⟨hq0, hq1, h⟩ := h
        refine ⟨hq0, hq1, ?_⟩
        obtain ⟨x16, ww17, hr, h⟩ := h
        refine ⟨x16, ww17, hr, ?_⟩
        refine bif_of (fun c18 => ?_) (fun c18 => ?_)
        · have h := h.1 (not_t c18)
          refine thenW_in fun ww19 e19 => ?_
          have hx19 := (Ext.refl no ww17).x_drew e19
          obtain ⟨hw1, hw2, h⟩ := h
          try rw [w64 hw1 hw2]
          obtain ⟨hq0, hq1, h⟩ := h
          refine ⟨hq0, hq1, ?_⟩
          obtain ⟨hq0, hq1, h⟩ := h
          refine ⟨hq0, hq1, ?_⟩
          have h := h ww19 hx19
          obtain ⟨c20, ww21, hr, h⟩ := h
          refine ⟨c20, ww21, hr, ?_⟩
          obtain ⟨hq0, hq1, h⟩ := h
          refine ⟨hq0, hq1, ?_⟩
          obtain ⟨c22, ww23, hr, h⟩ := h
          refine ⟨c22, ww23, hr, ?_⟩
          exact h
        · have h := h.2 (not_f c18)
          obtain ⟨hq0, hq1, h⟩ := h
          refine ⟨hq0, hq1, ?_⟩
          obtain ⟨c24, ww25, hr, h⟩ := h
          refine ⟨c24, ww25, hr, ?_⟩
          obtain ⟨hq0, hq1, h⟩ := h
          refine ⟨hq0, hq1, ?_⟩
          refine h.mono fun ee26 ww27 h => ?_
          obtain ⟨he, h⟩ := h
          refine ⟨he, ?_⟩
          exact h

theorem slices_Insert_members_Member_members_Member.go (s1a : Option Addr) (s1n : Nat) (s1c : Nat) (i2 : Int) (v3a : Option Addr) (v3n : Nat) (v3c : Nat) {R : Value → World → Prop} {w : World} (h : slices_Insert_members_Member_members_Member.N s1a s1n s1c i2 v3a v3n v3c R w) : Calls Try.prog 60 #[.slice s1a s1n s1c, .int .i64 i2, .slice v3a v3n v3c] w fun e w' => ∃ v, e = .returned v ∧ R v w' := slices_Insert_members_Member_members_Member.ok s1a s1n s1c i2 v3a v3n v3c (slices_Insert_members_Member_members_Member.up s1a s1n s1c i2 v3a v3n v3c h)
theorem slices_Insert_members_Member_members_Member.run (s1a : Option Addr) (s1n : Nat) (s1c : Nat) (i2 : Int) (v3a : Option Addr) (v3n : Nat) (v3c : Nat) {V : Value} {Q : World → Prop} {w : World} (h : slices_Insert_members_Member_members_Member.N s1a s1n s1c i2 v3a v3n v3c (fun v w' => v = V ∧ Q w') w) : Calls Try.prog 60 #[.slice s1a s1n s1c, .int .i64 i2, .slice v3a v3n v3c] w (Ret V Q) := (slices_Insert_members_Member_members_Member.go s1a s1n s1c i2 v3a v3n v3c h).mono fun e w' ⟨v, he, hv, hq⟩ => ⟨by rw [he, hv], hq⟩

/-- cachettelaw12.Own -/
def cachettelaw12_Own.M (cKind1 : Int) (cWho2 : Int) (cPublic3 : Int) (cLimit4 : Int) (cWraps5a : Option Addr) (cWraps5n : Nat) (cWraps5c : Nat) (cOld6a : Option Addr) (cOld6n : Nat) (cOld6c : Nat) (R : Value → World → Prop) (w : World) : Prop :=
  thenW (w.alloc (.cells #[.int .i64 cKind1, .int .i64 cWho2, .int .u64 cPublic3, .int .i64 cLimit4, .slice cWraps5a cWraps5n cWraps5c, .slice cOld6a cOld6n cOld6c] 40)) fun ww7 =>
  thenW (ww7.alloc (.cells #[.int .i64 0, .int .i64 0, .int .u64 0, .int .i64 0, .slice none 0 0, .slice none 0 0] 36)) fun ww8 =>
  ∃ (Kind9 : Int), ww8.cell? ((blk w.heap.size).add 0) = some (.int .i64 Kind9) ∧
  ∃ (Who10 : Int), ww8.cell? ((blk w.heap.size).add 1) = some (.int .i64 Who10) ∧
  ∃ (Public11 : Int), ww8.cell? ((blk w.heap.size).add 2) = some (.int .u64 Public11) ∧
  ∃ (Limit12 : Int), ww8.cell? ((blk w.heap.size).add 3) = some (.int .i64 Limit12) ∧
  ∃ (Old13a : Option Addr) (Old13n : Nat) (Old13c : Nat), ww8.cell? ((blk w.heap.size).add 5) = some (.slice Old13a Old13n Old13c) ∧
  thenW (ww8.alloc (.cells #[.int .i64 0, .int .i64 0, .int .u64 0, .int .i64 0, .slice none 0 0, .slice none 0 0] 36)) fun ww14 =>
  canStore ww14 ((blk ww8.heap.size).add 0) ∧
  thenW (ww14.setCell ((blk ww8.heap.size).add 0) (.int .i64 Kind9)) fun ww15 =>
  canStore ww15 ((blk ww8.heap.size).add 1) ∧
  thenW (ww15.setCell ((blk ww8.heap.size).add 1) (.int .i64 Who10)) fun ww16 =>
  canStore ww16 ((blk ww8.heap.size).add 2) ∧
  thenW (ww16.setCell ((blk ww8.heap.size).add 2) (.int .u64 Public11)) fun ww17 =>
  canStore ww17 ((blk ww8.heap.size).add 3) ∧
  thenW (ww17.setCell ((blk ww8.heap.size).add 3) (.int .i64 Limit12)) fun ww18 =>
  canStore ww18 ((blk ww8.heap.size).add 4) ∧
  thenW (ww18.setCell ((blk ww8.heap.size).add 4) (.slice none 0 0)) fun ww19 =>
  canStore ww19 ((blk ww8.heap.size).add 5) ∧
  thenW (ww19.setCell ((blk ww8.heap.size).add 5) (.slice Old13a Old13n Old13c)) fun ww20 =>
  ∃ (I0 : Nat → List Value → World → Prop) (m22 : Nat), I0 m22 [.int .i64 0] ww20 ∧ ∀ (m23 : Nat) (ww24 : World) (i21 : Int), I0 m23 [.int .i64 i21] ww24 →
  ∃ (Wraps25a : Option Addr) (Wraps25n : Nat) (Wraps25c : Nat), ww24.cell? ((blk w.heap.size).add 4) = some (.slice Wraps25a Wraps25n Wraps25c) ∧
  bif decide (i21 < (Wraps25n : Int)) then (
  thenW (ww24.drew) fun ww26 =>
  ∃ (Wraps27a : Option Addr) (Wraps27n : Nat) (Wraps27c : Nat), ww26.cell? ((blk ww8.heap.size).add 4) = some (.slice Wraps27a Wraps27n Wraps27c) ∧
  ∃ (Wraps28a : Option Addr) (Wraps28n : Nat) (Wraps28c : Nat), ww26.cell? ((blk w.heap.size).add 4) = some (.slice Wraps28a Wraps28n Wraps28c) ∧
  Wraps28a.elim False fun a29 =>
  0 ≤ (i21 : Int) ∧ (i21 : Int) < (Wraps28n : Int) ∧
  ∃ (Who30 : Int), ww26.cell? ((a29.add (Int.toNat i21 * 2)).add 0) = some (.int .i64 Who30) ∧
  ∃ (Wraps31a : Option Addr) (Wraps31n : Nat) (Wraps31c : Nat), ww26.cell? ((blk w.heap.size).add 4) = some (.slice Wraps31a Wraps31n Wraps31c) ∧
  Wraps31a.elim False fun a32 =>
  0 ≤ (i21 : Int) ∧ (i21 : Int) < (Wraps31n : Int) ∧
  ∃ (B33a : Option Addr) (B33n : Nat) (B33c : Nat), ww26.cell? ((a32.add (Int.toNat i21 * 2)).add 1) = some (.slice B33a B33n B33c) ∧
  thenW (ww26.alloc (.cells #[.int .i64 Who30, .slice B33a B33n B33c] 85)) fun ww34 =>
  ww34.cell? ((blk ww8.heap.size).add 4) = some (.slice Wraps27a Wraps27n Wraps27c) ∧
  ∃ (a35a : Option Addr) (a35n : Nat) (a35c : Nat) (ww36 : World), (Builtin.append_ #[33, 33] 33 #[.slice Wraps27a Wraps27n Wraps27c, .slice (some (blk ww26.heap.size)) 1 1]).run Try.prog ww34 = .ok (.slice a35a a35n a35c) ww36 ∧
  canStore ww36 (((blk ww8.heap.size).add 4).add 0) ∧
  thenW (ww36.setCell (((blk ww8.heap.size).add 4).add 0) (.slice a35a a35n a35c)) fun ww37 =>
  ∃ m38, m38 < m23 ∧ I0 m38 [.int .i64 (IntKind.i64.wrap (i21 + 1))] ww37) else (
  ∃ (xKind39 : Int) (xWho40 : Int) (xPublic41 : Int) (xLimit42 : Int) (xWraps43a : Option Addr) (xWraps43n : Nat) (xWraps43c : Nat) (xOld44a : Option Addr) (xOld44n : Nat) (xOld44c : Nat), cellsAt ww24 (blk ww8.heap.size) [.int .i64 xKind39, .int .i64 xWho40, .int .u64 xPublic41, .int .i64 xLimit42, .slice xWraps43a xWraps43n xWraps43c, .slice xOld44a xOld44n xOld44c] 0 ∧
  canStore ww24 ((blk ww7.heap.size).add 0) ∧
  thenW (ww24.setCell ((blk ww7.heap.size).add 0) (.int .i64 xKind39)) fun ww45 =>
  canStore ww45 ((blk ww7.heap.size).add 1) ∧
  thenW (ww45.setCell ((blk ww7.heap.size).add 1) (.int .i64 xWho40)) fun ww46 =>
  canStore ww46 ((blk ww7.heap.size).add 2) ∧
  thenW (ww46.setCell ((blk ww7.heap.size).add 2) (.int .u64 xPublic41)) fun ww47 =>
  canStore ww47 ((blk ww7.heap.size).add 3) ∧
  thenW (ww47.setCell ((blk ww7.heap.size).add 3) (.int .i64 xLimit42)) fun ww48 =>
  canStore ww48 ((blk ww7.heap.size).add 4) ∧
  thenW (ww48.setCell ((blk ww7.heap.size).add 4) (.slice xWraps43a xWraps43n xWraps43c)) fun ww49 =>
  canStore ww49 ((blk ww7.heap.size).add 5) ∧
  thenW (ww49.setCell ((blk ww7.heap.size).add 5) (.slice xOld44a xOld44n xOld44c)) fun ww50 =>
  ∃ (resKind51 : Int) (resWho52 : Int) (resPublic53 : Int) (resLimit54 : Int) (resWraps55a : Option Addr) (resWraps55n : Nat) (resWraps55c : Nat) (resOld56a : Option Addr) (resOld56n : Nat) (resOld56c : Nat), cellsAt ww50 (blk ww7.heap.size) [.int .i64 resKind51, .int .i64 resWho52, .int .u64 resPublic53, .int .i64 resLimit54, .slice resWraps55a resWraps55n resWraps55c, .slice resOld56a resOld56n resOld56c] 0 ∧
  R (.agg #[.int .i64 resKind51, .int .i64 resWho52, .int .u64 resPublic53, .int .i64 resLimit54, .slice resWraps55a resWraps55n resWraps55c, .slice resOld56a resOld56n resOld56c]) ww50)

theorem cachettelaw12_Own.eq (cKind1 : Int) (cWho2 : Int) (cPublic3 : Int) (cLimit4 : Int) (cWraps5a : Option Addr) (cWraps5n : Nat) (cWraps5c : Nat) (cOld6a : Option Addr) (cOld6n : Nat) (cOld6c : Nat) (R : Value → World → Prop) (w : World) : mfunc Try.prog [(0, [1, 2, 3], [(4, (.one (.int .i64)))])] 13 [.agg #[.int .i64 cKind1, .int .i64 cWho2, .int .u64 cPublic3, .int .i64 cLimit4, .slice cWraps5a cWraps5n cWraps5c, .slice cOld6a cOld6n cOld6c]] R w = cachettelaw12_Own.M cKind1 cWho2 cPublic3 cLimit4 cWraps5a cWraps5n cWraps5c cOld6a cOld6n cOld6c R w := by kernel_rfl
theorem cachettelaw12_Own.ok (cKind1 : Int) (cWho2 : Int) (cPublic3 : Int) (cLimit4 : Int) (cWraps5a : Option Addr) (cWraps5n : Nat) (cWraps5c : Nat) (cOld6a : Option Addr) (cOld6n : Nat) (cOld6c : Nat) {R : Value → World → Prop} {w : World} (h : cachettelaw12_Own.M cKind1 cWho2 cPublic3 cLimit4 cWraps5a cWraps5n cWraps5c cOld6a cOld6n cOld6c R w) : Calls Try.prog 13 #[.agg #[.int .i64 cKind1, .int .i64 cWho2, .int .u64 cPublic3, .int .i64 cLimit4, .slice cWraps5a cWraps5n cWraps5c, .slice cOld6a cOld6n cOld6c]] w fun e w' => ∃ v, e = .returned v ∧ R v w' :=
  mfunc_ok follows (H := [(0, [1, 2, 3], [(4, (.one (.int .i64)))])]) (args := [.agg #[.int .i64 cKind1, .int .i64 cWho2, .int .u64 cPublic3, .int .i64 cLimit4, .slice cWraps5a cWraps5n cWraps5c, .slice cOld6a cOld6n cOld6c]]) (by rw [cachettelaw12_Own.eq]; exact h)

def cachettelaw12_Own.N (cKind1 : Int) (cWho2 : Int) (cPublic3 : Int) (cLimit4 : Int) (cWraps5a : Option Addr) (cWraps5n : Nat) (cWraps5c : Nat) (cOld6a : Option Addr) (cOld6n : Nat) (cOld6c : Nat) (R : Value → World → Prop) (w : World) : Prop :=
  ∀ (ww15 : World) (p16 : Nat) (p17 : Nat) (p18 : Nat), Ext no w ww15 → Priv w ww15 [p16, p17, p18] →
  ∃ (I0 : Nat → List Value → World → Prop) (m32 : Nat), I0 m32 [.int .i64 0, .int .i64 0, .int .i64 0, .int .u64 0, .int .i64 0, .slice none 0 0, .slice none 0 0, .int .i64 cKind1, .int .i64 cWho2, .int .u64 cPublic3, .int .i64 cLimit4, .slice none 0 0, .slice cOld6a cOld6n cOld6c] ww15 ∧ ∀ (m33 : Nat) (ww34 : World) (i19 : Int) (Kind20 : Int) (Who21 : Int) (Public22 : Int) (Limit23 : Int) (Wraps24a : Option Addr) (Wraps24n : Nat) (Wraps24c : Nat) (Old25a : Option Addr) (Old25n : Nat) (Old25c : Nat) (Kind26 : Int) (Who27 : Int) (Public28 : Int) (Limit29 : Int) (Wraps30a : Option Addr) (Wraps30n : Nat) (Wraps30c : Nat) (Old31a : Option Addr) (Old31n : Nat) (Old31c : Nat), I0 m33 [.int .i64 i19, .int .i64 Kind20, .int .i64 Who21, .int .u64 Public22, .int .i64 Limit23, .slice Wraps24a Wraps24n Wraps24c, .slice Old25a Old25n Old25c, .int .i64 Kind26, .int .i64 Who27, .int .u64 Public28, .int .i64 Limit29, .slice Wraps30a Wraps30n Wraps30c, .slice Old31a Old31n Old31c] ww34 →
  (i19 < (cWraps5n : Int) →
    ∃ a37 : Addr, cWraps5a = some a37 ∧
    0 ≤ (i19 : Int) ∧ (i19 : Int) < (cWraps5n : Int) ∧
    ∃ (Who39 : Int), ww34.cell? ((a37.add (Int.toNat i19 * 2)).add 0) = some (.int .i64 Who39) ∧
    0 ≤ (i19 : Int) ∧ (i19 : Int) < (cWraps5n : Int) ∧
    ∃ (B41a : Option Addr) (B41n : Nat) (B41c : Nat), ww34.cell? ((a37.add (Int.toNat i19 * 2)).add 1) = some (.slice B41a B41n B41c) ∧
    ∀ (ww42 : World) (q43 : Nat), Ext no ww34 ww42 → Blk ww42 q43 85 [.int .i64 Who39, .slice B41a B41n B41c] → ww34.heap.size ≤ q43 → q43 < ww42.heap.size →
    ∃ (a44a : Option Addr) (a44n : Nat) (a44c : Nat) (ww45 : World), (Builtin.append_ #[33, 33] 33 #[.slice Wraps30a Wraps30n Wraps30c, .slice (some (blk q43)) 1 1]).run Try.prog ww42 = .ok (.slice a44a a44n a44c) ww45 ∧
    Keep [p16, p17, p18] ww42 ww45 ∧
    (-9223372036854775808 : Int) ≤ (i19 + 1) ∧ (i19 + 1) < 9223372036854775808 ∧
    ∀ (ww46 : World), Ext (fun b => b = p18) ww45 ww46 →
    ∃ m47, m47 < m33 ∧ I0 m47 [.int .i64 (i19 + 1), .int .i64 Kind20, .int .i64 Who21, .int .u64 Public22, .int .i64 Limit23, .slice Wraps24a Wraps24n Wraps24c, .slice Old25a Old25n Old25c, .int .i64 Kind26, .int .i64 Who27, .int .u64 Public28, .int .i64 Limit29, .slice a44a a44n a44c, .slice Old31a Old31n Old31c] ww46) ∧
  ((cWraps5n : Int) ≤ i19 →
    ∀ (ww53 : World), Ext (fun b => b = p17) ww34 ww53 →
    R (.agg #[.int .i64 Kind26, .int .i64 Who27, .int .u64 Public28, .int .i64 Limit29, .slice Wraps30a Wraps30n Wraps30c, .slice Old31a Old31n Old31c]) ww53)

theorem cachettelaw12_Own.up (cKind1 : Int) (cWho2 : Int) (cPublic3 : Int) (cLimit4 : Int) (cWraps5a : Option Addr) (cWraps5n : Nat) (cWraps5c : Nat) (cOld6a : Option Addr) (cOld6n : Nat) (cOld6c : Nat) {R : Value → World → Prop} {w : World} (h : cachettelaw12_Own.N cKind1 cWho2 cPublic3 cLimit4 cWraps5a cWraps5n cWraps5c cOld6a cOld6n cOld6c R w) : cachettelaw12_Own.M cKind1 cWho2 cPublic3 cLimit4 cWraps5a cWraps5n cWraps5c cOld6a cOld6n cOld6c R w := by
  unfold cachettelaw12_Own.M
  unfold cachettelaw12_Own.N at h
  refine thenW_in fun ww7 e7 => ?_
  have hb1 := Blk.of_new e7
  have hg1 := ((Ext.refl no w)).size
  have hx7 := (Ext.refl no w).x_alloc e7
  refine thenW_in fun ww8 e8 => ?_
  have hb2 := Blk.of_new e8
  have hg2 := (hx7).size
  have hb1_2 := Nat.ne_of_lt hb1.lt
  have hb1 := hb1.x_alloc e8
  have hx8 := hx7.x_alloc e8
  refine ⟨cKind1, hb1.celli 0 rfl rfl, ?_⟩
  refine ⟨cWho2, hb1.celli 1 rfl rfl, ?_⟩
  refine ⟨cPublic3, hb1.celli 2 rfl rfl, ?_⟩
  refine ⟨cLimit4, hb1.celli 3 rfl rfl, ?_⟩
  refine ⟨cOld6a, cOld6n, cOld6c, hb1.celli 5 rfl rfl, ?_⟩
  refine thenW_in fun ww9 e9 => ?_
  have hb3 := Blk.of_new e9
  have hg3 := (hx8).size
  have hb1_3 := Nat.ne_of_lt hb1.lt
  have hb1 := hb1.x_alloc e9
  have hb2_3 := Nat.ne_of_lt hb2.lt
  have hb2 := hb2.x_alloc e9
  have hx9 := hx8.x_alloc e9
  refine ⟨hb3.cani 0 rfl rfl, thenW_in fun ww10 e10 => ?_⟩
  have hx10 := hx9.x_set (q := ww8.heap.size) (i := 0) rfl (.inr hg3) e10
  have hb1 := hb1.oth (q := ww8.heap.size) (i := 0) rfl hb1_3 e10
  have hb2 := hb2.oth (q := ww8.heap.size) (i := 0) rfl hb2_3 e10
  have hb3 : Blk ww10 ww8.heap.size 36 [.int .i64 cKind1, .int .i64 0, .int .u64 0, .int .i64 0, .slice none 0 0, .slice none 0 0] := hb3.seti 0 rfl e10
  refine ⟨hb3.cani 1 rfl rfl, thenW_in fun ww11 e11 => ?_⟩
  have hx11 := hx10.x_set (q := ww8.heap.size) (i := 1) rfl (.inr hg3) e11
  have hb1 := hb1.oth (q := ww8.heap.size) (i := 1) rfl hb1_3 e11
  have hb2 := hb2.oth (q := ww8.heap.size) (i := 1) rfl hb2_3 e11
  have hb3 : Blk ww11 ww8.heap.size 36 [.int .i64 cKind1, .int .i64 cWho2, .int .u64 0, .int .i64 0, .slice none 0 0, .slice none 0 0] := hb3.seti 1 rfl e11
  refine ⟨hb3.cani 2 rfl rfl, thenW_in fun ww12 e12 => ?_⟩
  have hx12 := hx11.x_set (q := ww8.heap.size) (i := 2) rfl (.inr hg3) e12
  have hb1 := hb1.oth (q := ww8.heap.size) (i := 2) rfl hb1_3 e12
  have hb2 := hb2.oth (q := ww8.heap.size) (i := 2) rfl hb2_3 e12
  have hb3 : Blk ww12 ww8.heap.size 36 [.int .i64 cKind1, .int .i64 cWho2, .int .u64 cPublic3, .int .i64 0, .slice none 0 0, .slice none 0 0] := hb3.seti 2 rfl e12
  refine ⟨hb3.cani 3 rfl rfl, thenW_in fun ww13 e13 => ?_⟩
  have hx13 := hx12.x_set (q := ww8.heap.size) (i := 3) rfl (.inr hg3) e13
  have hb1 := hb1.oth (q := ww8.heap.size) (i := 3) rfl hb1_3 e13
  have hb2 := hb2.oth (q := ww8.heap.size) (i := 3) rfl hb2_3 e13
  have hb3 : Blk ww13 ww8.heap.size 36 [.int .i64 cKind1, .int .i64 cWho2, .int .u64 cPublic3, .int .i64 cLimit4, .slice none 0 0, .slice none 0 0] := hb3.seti 3 rfl e13
  refine ⟨hb3.cani 4 rfl rfl, thenW_in fun ww14 e14 => ?_⟩
  have hx14 := hx13.x_set (q := ww8.heap.size) (i := 4) rfl (.inr hg3) e14
  have hb1 := hb1.oth (q := ww8.heap.size) (i := 4) rfl hb1_3 e14
  have hb2 := hb2.oth (q := ww8.heap.size) (i := 4) rfl hb2_3 e14
  have hb3 : Blk ww14 ww8.heap.size 36 [.int .i64 cKind1, .int .i64 cWho2, .int .u64 cPublic3, .int .i64 cLimit4, .slice none 0 0, .slice none 0 0] := hb3.seti 4 rfl e14
  refine ⟨hb3.cani 5 rfl rfl, thenW_in fun ww15 e15 => ?_⟩
  have hx15 := hx14.x_set (q := ww8.heap.size) (i := 5) rfl (.inr hg3) e15
  have hb1 := hb1.oth (q := ww8.heap.size) (i := 5) rfl hb1_3 e15
  have hb2 := hb2.oth (q := ww8.heap.size) (i := 5) rfl hb2_3 e15
  have hb3 : Blk ww15 ww8.heap.size 36 [.int .i64 cKind1, .int .i64 cWho2, .int .u64 cPublic3, .int .i64 cLimit4, .slice none 0 0, .slice cOld6a cOld6n cOld6c] := hb3.seti 5 rfl e15
  have h := h ww15 (w.heap.size) (ww7.heap.size) (ww8.heap.size) hx15 (Priv.cons hg1 hb1.lt (Priv.cons hg2 hb2.lt (Priv.cons hg3 hb3.lt Priv.nil)))
  obtain ⟨I0, m32, h0, h⟩ := h
  refine ⟨fun k vs ww => ∃ (Kind20 : Int) (Who21 : Int) (Public22 : Int) (Limit23 : Int) (Wraps24a : Option Addr) (Wraps24n : Nat) (Wraps24c : Nat) (Old25a : Option Addr) (Old25n : Nat) (Old25c : Nat) (Kind26 : Int) (Who27 : Int) (Public28 : Int) (Limit29 : Int) (Wraps30a : Option Addr) (Wraps30n : Nat) (Wraps30c : Nat) (Old31a : Option Addr) (Old31n : Nat) (Old31c : Nat), Blk ww w.heap.size 40 [.int .i64 cKind1, .int .i64 cWho2, .int .u64 cPublic3, .int .i64 cLimit4, .slice cWraps5a cWraps5n cWraps5c, .slice cOld6a cOld6n cOld6c] ∧ Blk ww ww7.heap.size 36 [.int .i64 Kind20, .int .i64 Who21, .int .u64 Public22, .int .i64 Limit23, .slice Wraps24a Wraps24n Wraps24c, .slice Old25a Old25n Old25c] ∧ Blk ww ww8.heap.size 36 [.int .i64 Kind26, .int .i64 Who27, .int .u64 Public28, .int .i64 Limit29, .slice Wraps30a Wraps30n Wraps30c, .slice Old31a Old31n Old31c] ∧ I0 k (vs ++ [.int .i64 Kind20, .int .i64 Who21, .int .u64 Public22, .int .i64 Limit23, .slice Wraps24a Wraps24n Wraps24c, .slice Old25a Old25n Old25c, .int .i64 Kind26, .int .i64 Who27, .int .u64 Public28, .int .i64 Limit29, .slice Wraps30a Wraps30n Wraps30c, .slice Old31a Old31n Old31c]) ww, m32, ⟨0, 0, 0, 0, none, 0, 0, none, 0, 0, cKind1, cWho2, cPublic3, cLimit4, none, 0, 0, cOld6a, cOld6n, cOld6c, hb1, hb2, hb3, h0⟩, fun m33 ww34 i19 hI => ?_⟩
  obtain ⟨Kind20, Who21, Public22, Limit23, Wraps24a, Wraps24n, Wraps24c, Old25a, Old25n, Old25c, Kind26, Who27, Public28, Limit29, Wraps30a, Wraps30n, Wraps30c, Old31a, Old31n, Old31c, hb1, hb2, hb3, hI⟩ := hI
  have h := h m33 ww34 i19 Kind20 Who21 Public22 Limit23 Wraps24a Wraps24n Wraps24c Old25a Old25n Old25c Kind26 Who27 Public28 Limit29 Wraps30a Wraps30n Wraps30c Old31a Old31n Old31c hI
  refine ⟨cWraps5a, cWraps5n, cWraps5c, hb1.celli 4 rfl rfl, ?_⟩
  refine bif_of (fun c35 => ?_) (fun c35 => ?_)
  · have h := h.1 (of_decide_eq_true c35)
    refine thenW_in fun ww36 e36 => ?_
    have hx36 := (Ext.refl no ww34).x_drew e36
    have hb1 := hb1.x_drew e36
    have hb2 := hb2.x_drew e36
    have hb3 := hb3.x_drew e36
    refine ⟨Wraps30a, Wraps30n, Wraps30c, hb3.celli 4 rfl rfl, ?_⟩
    refine ⟨cWraps5a, cWraps5n, cWraps5c, hb1.celli 4 rfl rfl, ?_⟩
    obtain ⟨a37, ha37, h⟩ := h
    refine elim_some ha37 ?_
    obtain ⟨hq1, hq2, h⟩ := h
    refine ⟨hq1, hq2, ?_⟩
    obtain ⟨Who39, hc38, h⟩ := h
    refine ⟨Who39, (hx36).cell hc38 id, ?_⟩
    refine ⟨cWraps5a, cWraps5n, cWraps5c, hb1.celli 4 rfl rfl, ?_⟩
    refine elim_some ha37 ?_
    obtain ⟨hq1, hq2, h⟩ := h
    refine ⟨hq1, hq2, ?_⟩
    obtain ⟨B41a, B41n, B41c, hc40, h⟩ := h
    refine ⟨B41a, B41n, B41c, (hx36).cell hc40 id, ?_⟩
    refine thenW_in fun ww42 e42 => ?_
    have hb1 := hb1.x_alloc e42
    have hb2 := hb2.x_alloc e42
    have hb3 := hb3.x_alloc e42
    have h := h ww42 ww36.heap.size (hx36.x_alloc e42) (Blk.of_new e42) (hx36).size (size_lt_alloc e42)
    refine ⟨hb3.celli 4 rfl rfl, ?_⟩
    obtain ⟨a44a, a44n, a44c, ww45, hr, hk, h⟩ := h
    refine ⟨a44a, a44n, a44c, ww45, hr, ?_⟩
    have hb1 := hk.blk hb1 (by simp)
    have hb2 := hk.blk hb2 (by simp)
    have hb3 := hk.blk hb3 (by simp)
    have hm46 : Ext (fun b => b = ww8.heap.size) ww45 ww45 := ((Ext.refl no ww45)).none
    refine ⟨hb3.cani 4 rfl rfl, thenW_in fun ww46 e46 => ?_⟩
    have hx46 := hm46.x_set (q := ww8.heap.size) (i := 4) rfl (.inl rfl) e46
    have hb1 := hb1.oth (q := ww8.heap.size) (i := 4) rfl hb1_3 e46
    have hb2 := hb2.oth (q := ww8.heap.size) (i := 4) rfl hb2_3 e46
    have hb3 : Blk ww46 ww8.heap.size 36 [.int .i64 Kind26, .int .i64 Who27, .int .u64 Public28, .int .i64 Limit29, .slice a44a a44n a44c, .slice Old31a Old31n Old31c] := hb3.seti 4 rfl e46
    obtain ⟨hw1, hw2, h⟩ := h
    try rw [w64 hw1 hw2]
    have h := h ww46 hx46
    obtain ⟨m47, hk, h⟩ := h
    exact ⟨m47, hk, Kind20, Who21, Public22, Limit23, Wraps24a, Wraps24n, Wraps24c, Old25a, Old25n, Old25c, Kind26, Who27, Public28, Limit29, a44a, a44n, a44c, Old31a, Old31n, Old31c, hb1, hb2, hb3, h⟩
  · have h := h.2 (Int.not_lt.1 (of_decide_eq_false c35))
    refine ⟨Kind26, Who27, Public28, Limit29, Wraps30a, Wraps30n, Wraps30c, Old31a, Old31n, Old31c, ⟨hb3.celli 0 rfl rfl, hb3.celli 1 rfl rfl, hb3.celli 2 rfl rfl, hb3.celli 3 rfl rfl, hb3.celli 4 rfl rfl, hb3.celli 5 rfl rfl, trivial⟩, ?_⟩
    have hm53 : Ext (fun b => b = ww7.heap.size) ww34 ww34 := ((Ext.refl no ww34)).none
    refine ⟨hb2.cani 0 rfl rfl, thenW_in fun ww48 e48 => ?_⟩
    have hx48 := hm53.x_set (q := ww7.heap.size) (i := 0) rfl (.inl rfl) e48
    have hb2 : Blk ww48 ww7.heap.size 36 [.int .i64 Kind26, .int .i64 Who21, .int .u64 Public22, .int .i64 Limit23, .slice Wraps24a Wraps24n Wraps24c, .slice Old25a Old25n Old25c] := hb2.seti 0 rfl e48
    refine ⟨hb2.cani 1 rfl rfl, thenW_in fun ww49 e49 => ?_⟩
    have hx49 := hx48.x_set (q := ww7.heap.size) (i := 1) rfl (.inl rfl) e49
    have hb2 : Blk ww49 ww7.heap.size 36 [.int .i64 Kind26, .int .i64 Who27, .int .u64 Public22, .int .i64 Limit23, .slice Wraps24a Wraps24n Wraps24c, .slice Old25a Old25n Old25c] := hb2.seti 1 rfl e49
    refine ⟨hb2.cani 2 rfl rfl, thenW_in fun ww50 e50 => ?_⟩
    have hx50 := hx49.x_set (q := ww7.heap.size) (i := 2) rfl (.inl rfl) e50
    have hb2 : Blk ww50 ww7.heap.size 36 [.int .i64 Kind26, .int .i64 Who27, .int .u64 Public28, .int .i64 Limit23, .slice Wraps24a Wraps24n Wraps24c, .slice Old25a Old25n Old25c] := hb2.seti 2 rfl e50
    refine ⟨hb2.cani 3 rfl rfl, thenW_in fun ww51 e51 => ?_⟩
    have hx51 := hx50.x_set (q := ww7.heap.size) (i := 3) rfl (.inl rfl) e51
    have hb2 : Blk ww51 ww7.heap.size 36 [.int .i64 Kind26, .int .i64 Who27, .int .u64 Public28, .int .i64 Limit29, .slice Wraps24a Wraps24n Wraps24c, .slice Old25a Old25n Old25c] := hb2.seti 3 rfl e51
    refine ⟨hb2.cani 4 rfl rfl, thenW_in fun ww52 e52 => ?_⟩
    have hx52 := hx51.x_set (q := ww7.heap.size) (i := 4) rfl (.inl rfl) e52
    have hb2 : Blk ww52 ww7.heap.size 36 [.int .i64 Kind26, .int .i64 Who27, .int .u64 Public28, .int .i64 Limit29, .slice Wraps30a Wraps30n Wraps30c, .slice Old25a Old25n Old25c] := hb2.seti 4 rfl e52
    refine ⟨hb2.cani 5 rfl rfl, thenW_in fun ww53 e53 => ?_⟩
    have hx53 := hx52.x_set (q := ww7.heap.size) (i := 5) rfl (.inl rfl) e53
    have hb2 : Blk ww53 ww7.heap.size 36 [.int .i64 Kind26, .int .i64 Who27, .int .u64 Public28, .int .i64 Limit29, .slice Wraps30a Wraps30n Wraps30c, .slice Old31a Old31n Old31c] := hb2.seti 5 rfl e53
    refine ⟨Kind26, Who27, Public28, Limit29, Wraps30a, Wraps30n, Wraps30c, Old31a, Old31n, Old31c, ⟨hb2.celli 0 rfl rfl, hb2.celli 1 rfl rfl, hb2.celli 2 rfl rfl, hb2.celli 3 rfl rfl, hb2.celli 4 rfl rfl, hb2.celli 5 rfl rfl, trivial⟩, ?_⟩
    have h := h ww53 hx53
    exact h

theorem cachettelaw12_Own.go (cKind1 : Int) (cWho2 : Int) (cPublic3 : Int) (cLimit4 : Int) (cWraps5a : Option Addr) (cWraps5n : Nat) (cWraps5c : Nat) (cOld6a : Option Addr) (cOld6n : Nat) (cOld6c : Nat) {R : Value → World → Prop} {w : World} (h : cachettelaw12_Own.N cKind1 cWho2 cPublic3 cLimit4 cWraps5a cWraps5n cWraps5c cOld6a cOld6n cOld6c R w) : Calls Try.prog 13 #[.agg #[.int .i64 cKind1, .int .i64 cWho2, .int .u64 cPublic3, .int .i64 cLimit4, .slice cWraps5a cWraps5n cWraps5c, .slice cOld6a cOld6n cOld6c]] w fun e w' => ∃ v, e = .returned v ∧ R v w' := cachettelaw12_Own.ok cKind1 cWho2 cPublic3 cLimit4 cWraps5a cWraps5n cWraps5c cOld6a cOld6n cOld6c (cachettelaw12_Own.up cKind1 cWho2 cPublic3 cLimit4 cWraps5a cWraps5n cWraps5c cOld6a cOld6n cOld6c h)
theorem cachettelaw12_Own.run (cKind1 : Int) (cWho2 : Int) (cPublic3 : Int) (cLimit4 : Int) (cWraps5a : Option Addr) (cWraps5n : Nat) (cWraps5c : Nat) (cOld6a : Option Addr) (cOld6n : Nat) (cOld6c : Nat) {V : Value} {Q : World → Prop} {w : World} (h : cachettelaw12_Own.N cKind1 cWho2 cPublic3 cLimit4 cWraps5a cWraps5n cWraps5c cOld6a cOld6n cOld6c (fun v w' => v = V ∧ Q w') w) : Calls Try.prog 13 #[.agg #[.int .i64 cKind1, .int .i64 cWho2, .int .u64 cPublic3, .int .i64 cLimit4, .slice cWraps5a cWraps5n cWraps5c, .slice cOld6a cOld6n cOld6c]] w (Ret V Q) := (cachettelaw12_Own.go cKind1 cWho2 cPublic3 cLimit4 cWraps5a cWraps5n cWraps5c cOld6a cOld6n cOld6c h).mono fun e w' ⟨v, he, hv, hq⟩ => ⟨by rw [he, hv], hq⟩

/-- cachettelaw12.Back -/
def cachettelaw12_Back.M (cKind1 : Int) (cWho2 : Int) (cPublic3 : Int) (cLimit4 : Int) (cWraps5a : Option Addr) (cWraps5n : Nat) (cWraps5c : Nat) (cOld6a : Option Addr) (cOld6n : Nat) (cOld6c : Nat) (R : Value → World → Prop) (w : World) : Prop :=
  thenW (w.alloc (.cells #[.int .i64 cKind1, .int .i64 cWho2, .int .u64 cPublic3, .int .i64 cLimit4, .slice cWraps5a cWraps5n cWraps5c, .slice cOld6a cOld6n cOld6c] 36)) fun ww7 =>
  thenW (ww7.alloc (.cells #[.int .i64 0, .int .i64 0, .int .u64 0, .int .i64 0, .slice none 0 0, .slice none 0 0] 40)) fun ww8 =>
  ∃ (Kind9 : Int), ww8.cell? ((blk w.heap.size).add 0) = some (.int .i64 Kind9) ∧
  ∃ (Who10 : Int), ww8.cell? ((blk w.heap.size).add 1) = some (.int .i64 Who10) ∧
  ∃ (Public11 : Int), ww8.cell? ((blk w.heap.size).add 2) = some (.int .u64 Public11) ∧
  ∃ (Limit12 : Int), ww8.cell? ((blk w.heap.size).add 3) = some (.int .i64 Limit12) ∧
  ∃ (Old13a : Option Addr) (Old13n : Nat) (Old13c : Nat), ww8.cell? ((blk w.heap.size).add 5) = some (.slice Old13a Old13n Old13c) ∧
  thenW (ww8.alloc (.cells #[.int .i64 0, .int .i64 0, .int .u64 0, .int .i64 0, .slice none 0 0, .slice none 0 0] 40)) fun ww14 =>
  canStore ww14 ((blk ww8.heap.size).add 0) ∧
  thenW (ww14.setCell ((blk ww8.heap.size).add 0) (.int .i64 Kind9)) fun ww15 =>
  canStore ww15 ((blk ww8.heap.size).add 1) ∧
  thenW (ww15.setCell ((blk ww8.heap.size).add 1) (.int .i64 Who10)) fun ww16 =>
  canStore ww16 ((blk ww8.heap.size).add 2) ∧
  thenW (ww16.setCell ((blk ww8.heap.size).add 2) (.int .u64 Public11)) fun ww17 =>
  canStore ww17 ((blk ww8.heap.size).add 3) ∧
  thenW (ww17.setCell ((blk ww8.heap.size).add 3) (.int .i64 Limit12)) fun ww18 =>
  canStore ww18 ((blk ww8.heap.size).add 4) ∧
  thenW (ww18.setCell ((blk ww8.heap.size).add 4) (.slice none 0 0)) fun ww19 =>
  canStore ww19 ((blk ww8.heap.size).add 5) ∧
  thenW (ww19.setCell ((blk ww8.heap.size).add 5) (.slice Old13a Old13n Old13c)) fun ww20 =>
  ∃ (I0 : Nat → List Value → World → Prop) (m22 : Nat), I0 m22 [.int .i64 0] ww20 ∧ ∀ (m23 : Nat) (ww24 : World) (i21 : Int), I0 m23 [.int .i64 i21] ww24 →
  ∃ (Wraps25a : Option Addr) (Wraps25n : Nat) (Wraps25c : Nat), ww24.cell? ((blk w.heap.size).add 4) = some (.slice Wraps25a Wraps25n Wraps25c) ∧
  bif decide (i21 < (Wraps25n : Int)) then (
  thenW (ww24.drew) fun ww26 =>
  ∃ (Wraps27a : Option Addr) (Wraps27n : Nat) (Wraps27c : Nat), ww26.cell? ((blk ww8.heap.size).add 4) = some (.slice Wraps27a Wraps27n Wraps27c) ∧
  ∃ (Wraps28a : Option Addr) (Wraps28n : Nat) (Wraps28c : Nat), ww26.cell? ((blk w.heap.size).add 4) = some (.slice Wraps28a Wraps28n Wraps28c) ∧
  Wraps28a.elim False fun a29 =>
  0 ≤ (i21 : Int) ∧ (i21 : Int) < (Wraps28n : Int) ∧
  ∃ (Who30 : Int), ww26.cell? ((a29.add (Int.toNat i21 * 2)).add 0) = some (.int .i64 Who30) ∧
  ∃ (Wraps31a : Option Addr) (Wraps31n : Nat) (Wraps31c : Nat), ww26.cell? ((blk w.heap.size).add 4) = some (.slice Wraps31a Wraps31n Wraps31c) ∧
  Wraps31a.elim False fun a32 =>
  0 ≤ (i21 : Int) ∧ (i21 : Int) < (Wraps31n : Int) ∧
  ∃ (B33a : Option Addr) (B33n : Nat) (B33c : Nat), ww26.cell? ((a32.add (Int.toNat i21 * 2)).add 1) = some (.slice B33a B33n B33c) ∧
  thenW (ww26.alloc (.cells #[.int .i64 Who30, .slice B33a B33n B33c] 84)) fun ww34 =>
  ww34.cell? ((blk ww8.heap.size).add 4) = some (.slice Wraps27a Wraps27n Wraps27c) ∧
  ∃ (a35a : Option Addr) (a35n : Nat) (a35c : Nat) (ww36 : World), (Builtin.append_ #[38, 38] 38 #[.slice Wraps27a Wraps27n Wraps27c, .slice (some (blk ww26.heap.size)) 1 1]).run Try.prog ww34 = .ok (.slice a35a a35n a35c) ww36 ∧
  canStore ww36 (((blk ww8.heap.size).add 4).add 0) ∧
  thenW (ww36.setCell (((blk ww8.heap.size).add 4).add 0) (.slice a35a a35n a35c)) fun ww37 =>
  ∃ m38, m38 < m23 ∧ I0 m38 [.int .i64 (IntKind.i64.wrap (i21 + 1))] ww37) else (
  ∃ (xKind39 : Int) (xWho40 : Int) (xPublic41 : Int) (xLimit42 : Int) (xWraps43a : Option Addr) (xWraps43n : Nat) (xWraps43c : Nat) (xOld44a : Option Addr) (xOld44n : Nat) (xOld44c : Nat), cellsAt ww24 (blk ww8.heap.size) [.int .i64 xKind39, .int .i64 xWho40, .int .u64 xPublic41, .int .i64 xLimit42, .slice xWraps43a xWraps43n xWraps43c, .slice xOld44a xOld44n xOld44c] 0 ∧
  canStore ww24 ((blk ww7.heap.size).add 0) ∧
  thenW (ww24.setCell ((blk ww7.heap.size).add 0) (.int .i64 xKind39)) fun ww45 =>
  canStore ww45 ((blk ww7.heap.size).add 1) ∧
  thenW (ww45.setCell ((blk ww7.heap.size).add 1) (.int .i64 xWho40)) fun ww46 =>
  canStore ww46 ((blk ww7.heap.size).add 2) ∧
  thenW (ww46.setCell ((blk ww7.heap.size).add 2) (.int .u64 xPublic41)) fun ww47 =>
  canStore ww47 ((blk ww7.heap.size).add 3) ∧
  thenW (ww47.setCell ((blk ww7.heap.size).add 3) (.int .i64 xLimit42)) fun ww48 =>
  canStore ww48 ((blk ww7.heap.size).add 4) ∧
  thenW (ww48.setCell ((blk ww7.heap.size).add 4) (.slice xWraps43a xWraps43n xWraps43c)) fun ww49 =>
  canStore ww49 ((blk ww7.heap.size).add 5) ∧
  thenW (ww49.setCell ((blk ww7.heap.size).add 5) (.slice xOld44a xOld44n xOld44c)) fun ww50 =>
  ∃ (resKind51 : Int) (resWho52 : Int) (resPublic53 : Int) (resLimit54 : Int) (resWraps55a : Option Addr) (resWraps55n : Nat) (resWraps55c : Nat) (resOld56a : Option Addr) (resOld56n : Nat) (resOld56c : Nat), cellsAt ww50 (blk ww7.heap.size) [.int .i64 resKind51, .int .i64 resWho52, .int .u64 resPublic53, .int .i64 resLimit54, .slice resWraps55a resWraps55n resWraps55c, .slice resOld56a resOld56n resOld56c] 0 ∧
  R (.agg #[.int .i64 resKind51, .int .i64 resWho52, .int .u64 resPublic53, .int .i64 resLimit54, .slice resWraps55a resWraps55n resWraps55c, .slice resOld56a resOld56n resOld56c]) ww50)

theorem cachettelaw12_Back.eq (cKind1 : Int) (cWho2 : Int) (cPublic3 : Int) (cLimit4 : Int) (cWraps5a : Option Addr) (cWraps5n : Nat) (cWraps5c : Nat) (cOld6a : Option Addr) (cOld6n : Nat) (cOld6c : Nat) (R : Value → World → Prop) (w : World) : mfunc Try.prog [(0, [1, 2, 3], [(4, (.one (.int .i64)))])] 35 [.agg #[.int .i64 cKind1, .int .i64 cWho2, .int .u64 cPublic3, .int .i64 cLimit4, .slice cWraps5a cWraps5n cWraps5c, .slice cOld6a cOld6n cOld6c]] R w = cachettelaw12_Back.M cKind1 cWho2 cPublic3 cLimit4 cWraps5a cWraps5n cWraps5c cOld6a cOld6n cOld6c R w := by kernel_rfl
theorem cachettelaw12_Back.ok (cKind1 : Int) (cWho2 : Int) (cPublic3 : Int) (cLimit4 : Int) (cWraps5a : Option Addr) (cWraps5n : Nat) (cWraps5c : Nat) (cOld6a : Option Addr) (cOld6n : Nat) (cOld6c : Nat) {R : Value → World → Prop} {w : World} (h : cachettelaw12_Back.M cKind1 cWho2 cPublic3 cLimit4 cWraps5a cWraps5n cWraps5c cOld6a cOld6n cOld6c R w) : Calls Try.prog 35 #[.agg #[.int .i64 cKind1, .int .i64 cWho2, .int .u64 cPublic3, .int .i64 cLimit4, .slice cWraps5a cWraps5n cWraps5c, .slice cOld6a cOld6n cOld6c]] w fun e w' => ∃ v, e = .returned v ∧ R v w' :=
  mfunc_ok follows (H := [(0, [1, 2, 3], [(4, (.one (.int .i64)))])]) (args := [.agg #[.int .i64 cKind1, .int .i64 cWho2, .int .u64 cPublic3, .int .i64 cLimit4, .slice cWraps5a cWraps5n cWraps5c, .slice cOld6a cOld6n cOld6c]]) (by rw [cachettelaw12_Back.eq]; exact h)

def cachettelaw12_Back.N (cKind1 : Int) (cWho2 : Int) (cPublic3 : Int) (cLimit4 : Int) (cWraps5a : Option Addr) (cWraps5n : Nat) (cWraps5c : Nat) (cOld6a : Option Addr) (cOld6n : Nat) (cOld6c : Nat) (R : Value → World → Prop) (w : World) : Prop :=
  ∀ (ww15 : World) (p16 : Nat) (p17 : Nat) (p18 : Nat), Ext no w ww15 → Priv w ww15 [p16, p17, p18] →
  ∃ (I0 : Nat → List Value → World → Prop) (m32 : Nat), I0 m32 [.int .i64 0, .int .i64 0, .int .i64 0, .int .u64 0, .int .i64 0, .slice none 0 0, .slice none 0 0, .int .i64 cKind1, .int .i64 cWho2, .int .u64 cPublic3, .int .i64 cLimit4, .slice none 0 0, .slice cOld6a cOld6n cOld6c] ww15 ∧ ∀ (m33 : Nat) (ww34 : World) (i19 : Int) (Kind20 : Int) (Who21 : Int) (Public22 : Int) (Limit23 : Int) (Wraps24a : Option Addr) (Wraps24n : Nat) (Wraps24c : Nat) (Old25a : Option Addr) (Old25n : Nat) (Old25c : Nat) (Kind26 : Int) (Who27 : Int) (Public28 : Int) (Limit29 : Int) (Wraps30a : Option Addr) (Wraps30n : Nat) (Wraps30c : Nat) (Old31a : Option Addr) (Old31n : Nat) (Old31c : Nat), I0 m33 [.int .i64 i19, .int .i64 Kind20, .int .i64 Who21, .int .u64 Public22, .int .i64 Limit23, .slice Wraps24a Wraps24n Wraps24c, .slice Old25a Old25n Old25c, .int .i64 Kind26, .int .i64 Who27, .int .u64 Public28, .int .i64 Limit29, .slice Wraps30a Wraps30n Wraps30c, .slice Old31a Old31n Old31c] ww34 →
  (i19 < (cWraps5n : Int) →
    ∃ a37 : Addr, cWraps5a = some a37 ∧
    0 ≤ (i19 : Int) ∧ (i19 : Int) < (cWraps5n : Int) ∧
    ∃ (Who39 : Int), ww34.cell? ((a37.add (Int.toNat i19 * 2)).add 0) = some (.int .i64 Who39) ∧
    0 ≤ (i19 : Int) ∧ (i19 : Int) < (cWraps5n : Int) ∧
    ∃ (B41a : Option Addr) (B41n : Nat) (B41c : Nat), ww34.cell? ((a37.add (Int.toNat i19 * 2)).add 1) = some (.slice B41a B41n B41c) ∧
    ∀ (ww42 : World) (q43 : Nat), Ext no ww34 ww42 → Blk ww42 q43 84 [.int .i64 Who39, .slice B41a B41n B41c] → ww34.heap.size ≤ q43 → q43 < ww42.heap.size →
    ∃ (a44a : Option Addr) (a44n : Nat) (a44c : Nat) (ww45 : World), (Builtin.append_ #[38, 38] 38 #[.slice Wraps30a Wraps30n Wraps30c, .slice (some (blk q43)) 1 1]).run Try.prog ww42 = .ok (.slice a44a a44n a44c) ww45 ∧
    Keep [p16, p17, p18] ww42 ww45 ∧
    (-9223372036854775808 : Int) ≤ (i19 + 1) ∧ (i19 + 1) < 9223372036854775808 ∧
    ∀ (ww46 : World), Ext (fun b => b = p18) ww45 ww46 →
    ∃ m47, m47 < m33 ∧ I0 m47 [.int .i64 (i19 + 1), .int .i64 Kind20, .int .i64 Who21, .int .u64 Public22, .int .i64 Limit23, .slice Wraps24a Wraps24n Wraps24c, .slice Old25a Old25n Old25c, .int .i64 Kind26, .int .i64 Who27, .int .u64 Public28, .int .i64 Limit29, .slice a44a a44n a44c, .slice Old31a Old31n Old31c] ww46) ∧
  ((cWraps5n : Int) ≤ i19 →
    ∀ (ww53 : World), Ext (fun b => b = p17) ww34 ww53 →
    R (.agg #[.int .i64 Kind26, .int .i64 Who27, .int .u64 Public28, .int .i64 Limit29, .slice Wraps30a Wraps30n Wraps30c, .slice Old31a Old31n Old31c]) ww53)

theorem cachettelaw12_Back.up (cKind1 : Int) (cWho2 : Int) (cPublic3 : Int) (cLimit4 : Int) (cWraps5a : Option Addr) (cWraps5n : Nat) (cWraps5c : Nat) (cOld6a : Option Addr) (cOld6n : Nat) (cOld6c : Nat) {R : Value → World → Prop} {w : World} (h : cachettelaw12_Back.N cKind1 cWho2 cPublic3 cLimit4 cWraps5a cWraps5n cWraps5c cOld6a cOld6n cOld6c R w) : cachettelaw12_Back.M cKind1 cWho2 cPublic3 cLimit4 cWraps5a cWraps5n cWraps5c cOld6a cOld6n cOld6c R w := by
  unfold cachettelaw12_Back.M
  unfold cachettelaw12_Back.N at h
  refine thenW_in fun ww7 e7 => ?_
  have hb1 := Blk.of_new e7
  have hg1 := ((Ext.refl no w)).size
  have hx7 := (Ext.refl no w).x_alloc e7
  refine thenW_in fun ww8 e8 => ?_
  have hb2 := Blk.of_new e8
  have hg2 := (hx7).size
  have hb1_2 := Nat.ne_of_lt hb1.lt
  have hb1 := hb1.x_alloc e8
  have hx8 := hx7.x_alloc e8
  refine ⟨cKind1, hb1.celli 0 rfl rfl, ?_⟩
  refine ⟨cWho2, hb1.celli 1 rfl rfl, ?_⟩
  refine ⟨cPublic3, hb1.celli 2 rfl rfl, ?_⟩
  refine ⟨cLimit4, hb1.celli 3 rfl rfl, ?_⟩
  refine ⟨cOld6a, cOld6n, cOld6c, hb1.celli 5 rfl rfl, ?_⟩
  refine thenW_in fun ww9 e9 => ?_
  have hb3 := Blk.of_new e9
  have hg3 := (hx8).size
  have hb1_3 := Nat.ne_of_lt hb1.lt
  have hb1 := hb1.x_alloc e9
  have hb2_3 := Nat.ne_of_lt hb2.lt
  have hb2 := hb2.x_alloc e9
  have hx9 := hx8.x_alloc e9
  refine ⟨hb3.cani 0 rfl rfl, thenW_in fun ww10 e10 => ?_⟩
  have hx10 := hx9.x_set (q := ww8.heap.size) (i := 0) rfl (.inr hg3) e10
  have hb1 := hb1.oth (q := ww8.heap.size) (i := 0) rfl hb1_3 e10
  have hb2 := hb2.oth (q := ww8.heap.size) (i := 0) rfl hb2_3 e10
  have hb3 : Blk ww10 ww8.heap.size 40 [.int .i64 cKind1, .int .i64 0, .int .u64 0, .int .i64 0, .slice none 0 0, .slice none 0 0] := hb3.seti 0 rfl e10
  refine ⟨hb3.cani 1 rfl rfl, thenW_in fun ww11 e11 => ?_⟩
  have hx11 := hx10.x_set (q := ww8.heap.size) (i := 1) rfl (.inr hg3) e11
  have hb1 := hb1.oth (q := ww8.heap.size) (i := 1) rfl hb1_3 e11
  have hb2 := hb2.oth (q := ww8.heap.size) (i := 1) rfl hb2_3 e11
  have hb3 : Blk ww11 ww8.heap.size 40 [.int .i64 cKind1, .int .i64 cWho2, .int .u64 0, .int .i64 0, .slice none 0 0, .slice none 0 0] := hb3.seti 1 rfl e11
  refine ⟨hb3.cani 2 rfl rfl, thenW_in fun ww12 e12 => ?_⟩
  have hx12 := hx11.x_set (q := ww8.heap.size) (i := 2) rfl (.inr hg3) e12
  have hb1 := hb1.oth (q := ww8.heap.size) (i := 2) rfl hb1_3 e12
  have hb2 := hb2.oth (q := ww8.heap.size) (i := 2) rfl hb2_3 e12
  have hb3 : Blk ww12 ww8.heap.size 40 [.int .i64 cKind1, .int .i64 cWho2, .int .u64 cPublic3, .int .i64 0, .slice none 0 0, .slice none 0 0] := hb3.seti 2 rfl e12
  refine ⟨hb3.cani 3 rfl rfl, thenW_in fun ww13 e13 => ?_⟩
  have hx13 := hx12.x_set (q := ww8.heap.size) (i := 3) rfl (.inr hg3) e13
  have hb1 := hb1.oth (q := ww8.heap.size) (i := 3) rfl hb1_3 e13
  have hb2 := hb2.oth (q := ww8.heap.size) (i := 3) rfl hb2_3 e13
  have hb3 : Blk ww13 ww8.heap.size 40 [.int .i64 cKind1, .int .i64 cWho2, .int .u64 cPublic3, .int .i64 cLimit4, .slice none 0 0, .slice none 0 0] := hb3.seti 3 rfl e13
  refine ⟨hb3.cani 4 rfl rfl, thenW_in fun ww14 e14 => ?_⟩
  have hx14 := hx13.x_set (q := ww8.heap.size) (i := 4) rfl (.inr hg3) e14
  have hb1 := hb1.oth (q := ww8.heap.size) (i := 4) rfl hb1_3 e14
  have hb2 := hb2.oth (q := ww8.heap.size) (i := 4) rfl hb2_3 e14
  have hb3 : Blk ww14 ww8.heap.size 40 [.int .i64 cKind1, .int .i64 cWho2, .int .u64 cPublic3, .int .i64 cLimit4, .slice none 0 0, .slice none 0 0] := hb3.seti 4 rfl e14
  refine ⟨hb3.cani 5 rfl rfl, thenW_in fun ww15 e15 => ?_⟩
  have hx15 := hx14.x_set (q := ww8.heap.size) (i := 5) rfl (.inr hg3) e15
  have hb1 := hb1.oth (q := ww8.heap.size) (i := 5) rfl hb1_3 e15
  have hb2 := hb2.oth (q := ww8.heap.size) (i := 5) rfl hb2_3 e15
  have hb3 : Blk ww15 ww8.heap.size 40 [.int .i64 cKind1, .int .i64 cWho2, .int .u64 cPublic3, .int .i64 cLimit4, .slice none 0 0, .slice cOld6a cOld6n cOld6c] := hb3.seti 5 rfl e15
  have h := h ww15 (w.heap.size) (ww7.heap.size) (ww8.heap.size) hx15 (Priv.cons hg1 hb1.lt (Priv.cons hg2 hb2.lt (Priv.cons hg3 hb3.lt Priv.nil)))
  obtain ⟨I0, m32, h0, h⟩ := h
  refine ⟨fun k vs ww => ∃ (Kind20 : Int) (Who21 : Int) (Public22 : Int) (Limit23 : Int) (Wraps24a : Option Addr) (Wraps24n : Nat) (Wraps24c : Nat) (Old25a : Option Addr) (Old25n : Nat) (Old25c : Nat) (Kind26 : Int) (Who27 : Int) (Public28 : Int) (Limit29 : Int) (Wraps30a : Option Addr) (Wraps30n : Nat) (Wraps30c : Nat) (Old31a : Option Addr) (Old31n : Nat) (Old31c : Nat), Blk ww w.heap.size 36 [.int .i64 cKind1, .int .i64 cWho2, .int .u64 cPublic3, .int .i64 cLimit4, .slice cWraps5a cWraps5n cWraps5c, .slice cOld6a cOld6n cOld6c] ∧ Blk ww ww7.heap.size 40 [.int .i64 Kind20, .int .i64 Who21, .int .u64 Public22, .int .i64 Limit23, .slice Wraps24a Wraps24n Wraps24c, .slice Old25a Old25n Old25c] ∧ Blk ww ww8.heap.size 40 [.int .i64 Kind26, .int .i64 Who27, .int .u64 Public28, .int .i64 Limit29, .slice Wraps30a Wraps30n Wraps30c, .slice Old31a Old31n Old31c] ∧ I0 k (vs ++ [.int .i64 Kind20, .int .i64 Who21, .int .u64 Public22, .int .i64 Limit23, .slice Wraps24a Wraps24n Wraps24c, .slice Old25a Old25n Old25c, .int .i64 Kind26, .int .i64 Who27, .int .u64 Public28, .int .i64 Limit29, .slice Wraps30a Wraps30n Wraps30c, .slice Old31a Old31n Old31c]) ww, m32, ⟨0, 0, 0, 0, none, 0, 0, none, 0, 0, cKind1, cWho2, cPublic3, cLimit4, none, 0, 0, cOld6a, cOld6n, cOld6c, hb1, hb2, hb3, h0⟩, fun m33 ww34 i19 hI => ?_⟩
  obtain ⟨Kind20, Who21, Public22, Limit23, Wraps24a, Wraps24n, Wraps24c, Old25a, Old25n, Old25c, Kind26, Who27, Public28, Limit29, Wraps30a, Wraps30n, Wraps30c, Old31a, Old31n, Old31c, hb1, hb2, hb3, hI⟩ := hI
  have h := h m33 ww34 i19 Kind20 Who21 Public22 Limit23 Wraps24a Wraps24n Wraps24c Old25a Old25n Old25c Kind26 Who27 Public28 Limit29 Wraps30a Wraps30n Wraps30c Old31a Old31n Old31c hI
  refine ⟨cWraps5a, cWraps5n, cWraps5c, hb1.celli 4 rfl rfl, ?_⟩
  refine bif_of (fun c35 => ?_) (fun c35 => ?_)
  · have h := h.1 (of_decide_eq_true c35)
    refine thenW_in fun ww36 e36 => ?_
    have hx36 := (Ext.refl no ww34).x_drew e36
    have hb1 := hb1.x_drew e36
    have hb2 := hb2.x_drew e36
    have hb3 := hb3.x_drew e36
    refine ⟨Wraps30a, Wraps30n, Wraps30c, hb3.celli 4 rfl rfl, ?_⟩
    refine ⟨cWraps5a, cWraps5n, cWraps5c, hb1.celli 4 rfl rfl, ?_⟩
    obtain ⟨a37, ha37, h⟩ := h
    refine elim_some ha37 ?_
    obtain ⟨hq1, hq2, h⟩ := h
    refine ⟨hq1, hq2, ?_⟩
    obtain ⟨Who39, hc38, h⟩ := h
    refine ⟨Who39, (hx36).cell hc38 id, ?_⟩
    refine ⟨cWraps5a, cWraps5n, cWraps5c, hb1.celli 4 rfl rfl, ?_⟩
    refine elim_some ha37 ?_
    obtain ⟨hq1, hq2, h⟩ := h
    refine ⟨hq1, hq2, ?_⟩
    obtain ⟨B41a, B41n, B41c, hc40, h⟩ := h
    refine ⟨B41a, B41n, B41c, (hx36).cell hc40 id, ?_⟩
    refine thenW_in fun ww42 e42 => ?_
    have hb1 := hb1.x_alloc e42
    have hb2 := hb2.x_alloc e42
    have hb3 := hb3.x_alloc e42
    have h := h ww42 ww36.heap.size (hx36.x_alloc e42) (Blk.of_new e42) (hx36).size (size_lt_alloc e42)
    refine ⟨hb3.celli 4 rfl rfl, ?_⟩
    obtain ⟨a44a, a44n, a44c, ww45, hr, hk, h⟩ := h
    refine ⟨a44a, a44n, a44c, ww45, hr, ?_⟩
    have hb1 := hk.blk hb1 (by simp)
    have hb2 := hk.blk hb2 (by simp)
    have hb3 := hk.blk hb3 (by simp)
    have hm46 : Ext (fun b => b = ww8.heap.size) ww45 ww45 := ((Ext.refl no ww45)).none
    refine ⟨hb3.cani 4 rfl rfl, thenW_in fun ww46 e46 => ?_⟩
    have hx46 := hm46.x_set (q := ww8.heap.size) (i := 4) rfl (.inl rfl) e46
    have hb1 := hb1.oth (q := ww8.heap.size) (i := 4) rfl hb1_3 e46
    have hb2 := hb2.oth (q := ww8.heap.size) (i := 4) rfl hb2_3 e46
    have hb3 : Blk ww46 ww8.heap.size 40 [.int .i64 Kind26, .int .i64 Who27, .int .u64 Public28, .int .i64 Limit29, .slice a44a a44n a44c, .slice Old31a Old31n Old31c] := hb3.seti 4 rfl e46
    obtain ⟨hw1, hw2, h⟩ := h
    try rw [w64 hw1 hw2]
    have h := h ww46 hx46
    obtain ⟨m47, hk, h⟩ := h
    exact ⟨m47, hk, Kind20, Who21, Public22, Limit23, Wraps24a, Wraps24n, Wraps24c, Old25a, Old25n, Old25c, Kind26, Who27, Public28, Limit29, a44a, a44n, a44c, Old31a, Old31n, Old31c, hb1, hb2, hb3, h⟩
  · have h := h.2 (Int.not_lt.1 (of_decide_eq_false c35))
    refine ⟨Kind26, Who27, Public28, Limit29, Wraps30a, Wraps30n, Wraps30c, Old31a, Old31n, Old31c, ⟨hb3.celli 0 rfl rfl, hb3.celli 1 rfl rfl, hb3.celli 2 rfl rfl, hb3.celli 3 rfl rfl, hb3.celli 4 rfl rfl, hb3.celli 5 rfl rfl, trivial⟩, ?_⟩
    have hm53 : Ext (fun b => b = ww7.heap.size) ww34 ww34 := ((Ext.refl no ww34)).none
    refine ⟨hb2.cani 0 rfl rfl, thenW_in fun ww48 e48 => ?_⟩
    have hx48 := hm53.x_set (q := ww7.heap.size) (i := 0) rfl (.inl rfl) e48
    have hb2 : Blk ww48 ww7.heap.size 40 [.int .i64 Kind26, .int .i64 Who21, .int .u64 Public22, .int .i64 Limit23, .slice Wraps24a Wraps24n Wraps24c, .slice Old25a Old25n Old25c] := hb2.seti 0 rfl e48
    refine ⟨hb2.cani 1 rfl rfl, thenW_in fun ww49 e49 => ?_⟩
    have hx49 := hx48.x_set (q := ww7.heap.size) (i := 1) rfl (.inl rfl) e49
    have hb2 : Blk ww49 ww7.heap.size 40 [.int .i64 Kind26, .int .i64 Who27, .int .u64 Public22, .int .i64 Limit23, .slice Wraps24a Wraps24n Wraps24c, .slice Old25a Old25n Old25c] := hb2.seti 1 rfl e49
    refine ⟨hb2.cani 2 rfl rfl, thenW_in fun ww50 e50 => ?_⟩
    have hx50 := hx49.x_set (q := ww7.heap.size) (i := 2) rfl (.inl rfl) e50
    have hb2 : Blk ww50 ww7.heap.size 40 [.int .i64 Kind26, .int .i64 Who27, .int .u64 Public28, .int .i64 Limit23, .slice Wraps24a Wraps24n Wraps24c, .slice Old25a Old25n Old25c] := hb2.seti 2 rfl e50
    refine ⟨hb2.cani 3 rfl rfl, thenW_in fun ww51 e51 => ?_⟩
    have hx51 := hx50.x_set (q := ww7.heap.size) (i := 3) rfl (.inl rfl) e51
    have hb2 : Blk ww51 ww7.heap.size 40 [.int .i64 Kind26, .int .i64 Who27, .int .u64 Public28, .int .i64 Limit29, .slice Wraps24a Wraps24n Wraps24c, .slice Old25a Old25n Old25c] := hb2.seti 3 rfl e51
    refine ⟨hb2.cani 4 rfl rfl, thenW_in fun ww52 e52 => ?_⟩
    have hx52 := hx51.x_set (q := ww7.heap.size) (i := 4) rfl (.inl rfl) e52
    have hb2 : Blk ww52 ww7.heap.size 40 [.int .i64 Kind26, .int .i64 Who27, .int .u64 Public28, .int .i64 Limit29, .slice Wraps30a Wraps30n Wraps30c, .slice Old25a Old25n Old25c] := hb2.seti 4 rfl e52
    refine ⟨hb2.cani 5 rfl rfl, thenW_in fun ww53 e53 => ?_⟩
    have hx53 := hx52.x_set (q := ww7.heap.size) (i := 5) rfl (.inl rfl) e53
    have hb2 : Blk ww53 ww7.heap.size 40 [.int .i64 Kind26, .int .i64 Who27, .int .u64 Public28, .int .i64 Limit29, .slice Wraps30a Wraps30n Wraps30c, .slice Old31a Old31n Old31c] := hb2.seti 5 rfl e53
    refine ⟨Kind26, Who27, Public28, Limit29, Wraps30a, Wraps30n, Wraps30c, Old31a, Old31n, Old31c, ⟨hb2.celli 0 rfl rfl, hb2.celli 1 rfl rfl, hb2.celli 2 rfl rfl, hb2.celli 3 rfl rfl, hb2.celli 4 rfl rfl, hb2.celli 5 rfl rfl, trivial⟩, ?_⟩
    have h := h ww53 hx53
    exact h

theorem cachettelaw12_Back.go (cKind1 : Int) (cWho2 : Int) (cPublic3 : Int) (cLimit4 : Int) (cWraps5a : Option Addr) (cWraps5n : Nat) (cWraps5c : Nat) (cOld6a : Option Addr) (cOld6n : Nat) (cOld6c : Nat) {R : Value → World → Prop} {w : World} (h : cachettelaw12_Back.N cKind1 cWho2 cPublic3 cLimit4 cWraps5a cWraps5n cWraps5c cOld6a cOld6n cOld6c R w) : Calls Try.prog 35 #[.agg #[.int .i64 cKind1, .int .i64 cWho2, .int .u64 cPublic3, .int .i64 cLimit4, .slice cWraps5a cWraps5n cWraps5c, .slice cOld6a cOld6n cOld6c]] w fun e w' => ∃ v, e = .returned v ∧ R v w' := cachettelaw12_Back.ok cKind1 cWho2 cPublic3 cLimit4 cWraps5a cWraps5n cWraps5c cOld6a cOld6n cOld6c (cachettelaw12_Back.up cKind1 cWho2 cPublic3 cLimit4 cWraps5a cWraps5n cWraps5c cOld6a cOld6n cOld6c h)
theorem cachettelaw12_Back.run (cKind1 : Int) (cWho2 : Int) (cPublic3 : Int) (cLimit4 : Int) (cWraps5a : Option Addr) (cWraps5n : Nat) (cWraps5c : Nat) (cOld6a : Option Addr) (cOld6n : Nat) (cOld6c : Nat) {V : Value} {Q : World → Prop} {w : World} (h : cachettelaw12_Back.N cKind1 cWho2 cPublic3 cLimit4 cWraps5a cWraps5n cWraps5c cOld6a cOld6n cOld6c (fun v w' => v = V ∧ Q w') w) : Calls Try.prog 35 #[.agg #[.int .i64 cKind1, .int .i64 cWho2, .int .u64 cPublic3, .int .i64 cLimit4, .slice cWraps5a cWraps5n cWraps5c, .slice cOld6a cOld6n cOld6c]] w (Ret V Q) := (cachettelaw12_Back.go cKind1 cWho2 cPublic3 cLimit4 cWraps5a cWraps5n cWraps5c cOld6a cOld6n cOld6c h).mono fun e w' ⟨v, he, hv, hq⟩ => ⟨by rw [he, hv], hq⟩

/-- cachettelaw12.light -/
def cachettelaw12_light.M (l1a : Option Addr) (l1n : Nat) (l1c : Nat) (R : Value → World → Prop) (w : World) : Prop :=
  bif decide ((l1n : Int) > 60) then (
  R (.bool false) w) else (
  ∃ (I0 : Nat → List Value → World → Prop) (m3 : Nat), I0 m3 [.int .i64 0] w ∧ ∀ (m4 : Nat) (ww5 : World) (i2 : Int), I0 m4 [.int .i64 i2] ww5 →
  bif decide (i2 < (l1n : Int)) then (
  l1a.elim False fun a6 =>
  0 ≤ (i2 : Int) ∧ (i2 : Int) < (l1n : Int) ∧
  ∃ (Wraps7a : Option Addr) (Wraps7n : Nat) (Wraps7c : Nat), ww5.cell? ((a6.add (Int.toNat i2 * 6)).add 4) = some (.slice Wraps7a Wraps7n Wraps7c) ∧
  bif decide ((Wraps7n : Int) > 20) then (
  R (.bool false) ww5) else (
  l1a.elim False fun a8 =>
  0 ≤ (i2 : Int) ∧ (i2 : Int) < (l1n : Int) ∧
  ∃ (Old9a : Option Addr) (Old9n : Nat) (Old9c : Nat), ww5.cell? ((a8.add (Int.toNat i2 * 6)).add 5) = some (.slice Old9a Old9n Old9c) ∧
  bif decide ((Old9n : Int) > 100) then (
  R (.bool false) ww5) else (
  ∃ (I2 : Nat → List Value → World → Prop) (m11 : Nat), I2 m11 [.int .i64 0] ww5 ∧ ∀ (m12 : Nat) (ww13 : World) (k10 : Int), I2 m12 [.int .i64 k10] ww13 →
  l1a.elim False fun a14 =>
  0 ≤ (i2 : Int) ∧ (i2 : Int) < (l1n : Int) ∧
  ∃ (Wraps15a : Option Addr) (Wraps15n : Nat) (Wraps15c : Nat), ww13.cell? ((a14.add (Int.toNat i2 * 6)).add 4) = some (.slice Wraps15a Wraps15n Wraps15c) ∧
  bif decide (k10 < (Wraps15n : Int)) then (
  l1a.elim False fun a16 =>
  0 ≤ (i2 : Int) ∧ (i2 : Int) < (l1n : Int) ∧
  ∃ (Wraps17a : Option Addr) (Wraps17n : Nat) (Wraps17c : Nat), ww13.cell? ((a16.add (Int.toNat i2 * 6)).add 4) = some (.slice Wraps17a Wraps17n Wraps17c) ∧
  Wraps17a.elim False fun a18 =>
  0 ≤ (k10 : Int) ∧ (k10 : Int) < (Wraps17n : Int) ∧
  ∃ (B19a : Option Addr) (B19n : Nat) (B19c : Nat), ww13.cell? ((a18.add (Int.toNat k10 * 2)).add 1) = some (.slice B19a B19n B19c) ∧
  bif decide ((B19n : Int) > 100) then (
  R (.bool false) ww13) else (
  ∃ m20, m20 < m12 ∧ I2 m20 [.int .i64 (IntKind.i64.wrap (k10 + 1))] ww13)) else (
  ∃ m21, m21 < m4 ∧ I0 m21 [.int .i64 (IntKind.i64.wrap (i2 + 1))] ww13)))) else (
  R (.bool true) ww5))

theorem cachettelaw12_light.eq (l1a : Option Addr) (l1n : Nat) (l1c : Nat) (R : Value → World → Prop) (w : World) : mfunc Try.prog [(0, [0], [(3, (.one (.int .i64)))]), (2, [0, 3], [(4, (.one (.int .i64)))])] 9 [.slice l1a l1n l1c] R w = cachettelaw12_light.M l1a l1n l1c R w := by kernel_rfl
theorem cachettelaw12_light.ok (l1a : Option Addr) (l1n : Nat) (l1c : Nat) {R : Value → World → Prop} {w : World} (h : cachettelaw12_light.M l1a l1n l1c R w) : Calls Try.prog 9 #[.slice l1a l1n l1c] w fun e w' => ∃ v, e = .returned v ∧ R v w' :=
  mfunc_ok follows (H := [(0, [0], [(3, (.one (.int .i64)))]), (2, [0, 3], [(4, (.one (.int .i64)))])]) (args := [.slice l1a l1n l1c]) (by rw [cachettelaw12_light.eq]; exact h)

def cachettelaw12_light.N (l1a : Option Addr) (l1n : Nat) (l1c : Nat) (R : Value → World → Prop) (w : World) : Prop :=
  ((l1n : Int) > 60 →
    R (.bool false) w) ∧
  ((l1n : Int) ≤ 60 →
    ∃ (I0 : Nat → List Value → World → Prop) (m4 : Nat), I0 m4 [.int .i64 0] w ∧ ∀ (m5 : Nat) (ww6 : World) (i3 : Int), I0 m5 [.int .i64 i3] ww6 →
    (i3 < (l1n : Int) →
      ∃ a8 : Addr, l1a = some a8 ∧
      0 ≤ (i3 : Int) ∧ (i3 : Int) < (l1n : Int) ∧
      ∃ (Wraps10a : Option Addr) (Wraps10n : Nat) (Wraps10c : Nat), ww6.cell? ((a8.add (Int.toNat i3 * 6)).add 4) = some (.slice Wraps10a Wraps10n Wraps10c) ∧
      ((Wraps10n : Int) > 20 →
        R (.bool false) ww6) ∧
      ((Wraps10n : Int) ≤ 20 →
        0 ≤ (i3 : Int) ∧ (i3 : Int) < (l1n : Int) ∧
        ∃ (Old13a : Option Addr) (Old13n : Nat) (Old13c : Nat), ww6.cell? ((a8.add (Int.toNat i3 * 6)).add 5) = some (.slice Old13a Old13n Old13c) ∧
        ((Old13n : Int) > 100 →
          R (.bool false) ww6) ∧
        ((Old13n : Int) ≤ 100 →
          ∃ (I2 : Nat → List Value → World → Prop) (m16 : Nat), I2 m16 [.int .i64 0] ww6 ∧ ∀ (m17 : Nat) (ww18 : World) (k15 : Int), I2 m17 [.int .i64 k15] ww18 →
          0 ≤ (i3 : Int) ∧ (i3 : Int) < (l1n : Int) ∧
          ∃ (Wraps20a : Option Addr) (Wraps20n : Nat) (Wraps20c : Nat), ww18.cell? ((a8.add (Int.toNat i3 * 6)).add 4) = some (.slice Wraps20a Wraps20n Wraps20c) ∧
          (k15 < (Wraps20n : Int) →
            0 ≤ (i3 : Int) ∧ (i3 : Int) < (l1n : Int) ∧
            ∃ (Wraps23a : Option Addr) (Wraps23n : Nat) (Wraps23c : Nat), ww18.cell? ((a8.add (Int.toNat i3 * 6)).add 4) = some (.slice Wraps23a Wraps23n Wraps23c) ∧
            ∃ a24 : Addr, Wraps23a = some a24 ∧
            0 ≤ (k15 : Int) ∧ (k15 : Int) < (Wraps23n : Int) ∧
            ∃ (B26a : Option Addr) (B26n : Nat) (B26c : Nat), ww18.cell? ((a24.add (Int.toNat k15 * 2)).add 1) = some (.slice B26a B26n B26c) ∧
            ((B26n : Int) > 100 →
              R (.bool false) ww18) ∧
            ((B26n : Int) ≤ 100 →
              (-9223372036854775808 : Int) ≤ (k15 + 1) ∧ (k15 + 1) < 9223372036854775808 ∧
              ∃ m28, m28 < m17 ∧ I2 m28 [.int .i64 (k15 + 1)] ww18)) ∧
          ((Wraps20n : Int) ≤ k15 →
            (-9223372036854775808 : Int) ≤ (i3 + 1) ∧ (i3 + 1) < 9223372036854775808 ∧
            ∃ m29, m29 < m5 ∧ I0 m29 [.int .i64 (i3 + 1)] ww18)))) ∧
    ((l1n : Int) ≤ i3 →
      R (.bool true) ww6))

theorem cachettelaw12_light.up (l1a : Option Addr) (l1n : Nat) (l1c : Nat) {R : Value → World → Prop} {w : World} (h : cachettelaw12_light.N l1a l1n l1c R w) : cachettelaw12_light.M l1a l1n l1c R w := by
  unfold cachettelaw12_light.M
  unfold cachettelaw12_light.N at h
  refine bif_of (fun c2 => ?_) (fun c2 => ?_)
  · have h := h.1 (of_decide_eq_true c2)
    exact h
  · have h := h.2 (Int.not_lt.1 (of_decide_eq_false c2))
    obtain ⟨I0, m4, h0, h⟩ := h
    refine ⟨I0, m4, h0, fun m5 ww6 i3 hI => ?_⟩
    have h := h m5 ww6 i3 hI
    refine bif_of (fun c7 => ?_) (fun c7 => ?_)
    · have h := h.1 (of_decide_eq_true c7)
      obtain ⟨a8, ha8, h⟩ := h
      refine elim_some ha8 ?_
      obtain ⟨hq1, hq2, h⟩ := h
      refine ⟨hq1, hq2, ?_⟩
      obtain ⟨Wraps10a, Wraps10n, Wraps10c, hc9, h⟩ := h
      refine ⟨Wraps10a, Wraps10n, Wraps10c, hc9, ?_⟩
      refine bif_of (fun c11 => ?_) (fun c11 => ?_)
      · have h := h.1 (of_decide_eq_true c11)
        exact h
      · have h := h.2 (Int.not_lt.1 (of_decide_eq_false c11))
        refine elim_some ha8 ?_
        obtain ⟨hq1, hq2, h⟩ := h
        refine ⟨hq1, hq2, ?_⟩
        obtain ⟨Old13a, Old13n, Old13c, hc12, h⟩ := h
        refine ⟨Old13a, Old13n, Old13c, hc12, ?_⟩
        refine bif_of (fun c14 => ?_) (fun c14 => ?_)
        · have h := h.1 (of_decide_eq_true c14)
          exact h
        · have h := h.2 (Int.not_lt.1 (of_decide_eq_false c14))
          obtain ⟨I2, m16, h0, h⟩ := h
          refine ⟨I2, m16, h0, fun m17 ww18 k15 hI => ?_⟩
          have h := h m17 ww18 k15 hI
          refine elim_some ha8 ?_
          obtain ⟨hq1, hq2, h⟩ := h
          refine ⟨hq1, hq2, ?_⟩
          obtain ⟨Wraps20a, Wraps20n, Wraps20c, hc19, h⟩ := h
          refine ⟨Wraps20a, Wraps20n, Wraps20c, hc19, ?_⟩
          refine bif_of (fun c21 => ?_) (fun c21 => ?_)
          · have h := h.1 (of_decide_eq_true c21)
            refine elim_some ha8 ?_
            obtain ⟨hq1, hq2, h⟩ := h
            refine ⟨hq1, hq2, ?_⟩
            obtain ⟨Wraps23a, Wraps23n, Wraps23c, hc22, h⟩ := h
            refine ⟨Wraps23a, Wraps23n, Wraps23c, hc22, ?_⟩
            obtain ⟨a24, ha24, h⟩ := h
            refine elim_some ha24 ?_
            obtain ⟨hq1, hq2, h⟩ := h
            refine ⟨hq1, hq2, ?_⟩
            obtain ⟨B26a, B26n, B26c, hc25, h⟩ := h
            refine ⟨B26a, B26n, B26c, hc25, ?_⟩
            refine bif_of (fun c27 => ?_) (fun c27 => ?_)
            · have h := h.1 (of_decide_eq_true c27)
              exact h
            · have h := h.2 (Int.not_lt.1 (of_decide_eq_false c27))
              obtain ⟨hw1, hw2, h⟩ := h
              try rw [w64 hw1 hw2]
              obtain ⟨m28, hk, h⟩ := h
              exact ⟨m28, hk, h⟩
          · have h := h.2 (Int.not_lt.1 (of_decide_eq_false c21))
            obtain ⟨hw1, hw2, h⟩ := h
            try rw [w64 hw1 hw2]
            obtain ⟨m29, hk, h⟩ := h
            exact ⟨m29, hk, h⟩
    · have h := h.2 (Int.not_lt.1 (of_decide_eq_false c7))
      exact h

theorem cachettelaw12_light.go (l1a : Option Addr) (l1n : Nat) (l1c : Nat) {R : Value → World → Prop} {w : World} (h : cachettelaw12_light.N l1a l1n l1c R w) : Calls Try.prog 9 #[.slice l1a l1n l1c] w fun e w' => ∃ v, e = .returned v ∧ R v w' := cachettelaw12_light.ok l1a l1n l1c (cachettelaw12_light.up l1a l1n l1c h)
theorem cachettelaw12_light.run (l1a : Option Addr) (l1n : Nat) (l1c : Nat) {V : Value} {Q : World → Prop} {w : World} (h : cachettelaw12_light.N l1a l1n l1c (fun v w' => v = V ∧ Q w') w) : Calls Try.prog 9 #[.slice l1a l1n l1c] w (Ret V Q) := (cachettelaw12_light.go l1a l1n l1c h).mono fun e w' ⟨v, he, hv, hq⟩ => ⟨by rw [he, hv], hq⟩

/-- cachettelaw12.alive -/
def cachettelaw12_alive.M  (R : Value → World → Prop) (w : World) : Prop :=
  Calls Try.prog 11 #[.int .u64 5] w fun ee3 ww4 => ∃ (L1a : Option Addr) (L1n : Nat) (L1c : Nat) (Epoch2 : Int), ee3 = .returned (.agg #[.slice L1a L1n L1c, .int .i64 Epoch2]) ∧
  thenW (ww4.alloc (.cells #[.slice none 0 0, .int .i64 0] 28)) fun ww5 =>
  canStore ww5 ((blk ww4.heap.size).add 0) ∧
  thenW (ww5.setCell ((blk ww4.heap.size).add 0) (.slice L1a L1n L1c)) fun ww6 =>
  canStore ww6 ((blk ww4.heap.size).add 1) ∧
  thenW (ww6.setCell ((blk ww4.heap.size).add 1) (.int .i64 Epoch2)) fun ww7 =>
  thenW (ww7.drew) fun ww8 =>
  ∃ (xL9a : Option Addr) (xL9n : Nat) (xL9c : Nat) (xEpoch10 : Int), cellsAt ww8 (blk ww4.heap.size) [.slice xL9a xL9n xL9c, .int .i64 xEpoch10] 0 ∧
  ∃ (m11a : Option Addr) (m11n : Nat) (m11c : Nat) (ww12 : World), (Instr.makeSlice 34 (.int .i64 16) (.int .i64 16)).run Try.prog ww8 = .ok (.slice m11a m11n m11c) ww12 ∧
  cellsAt ww12 (blk ww4.heap.size) [.slice xL9a xL9n xL9c, .int .i64 xEpoch10] 0 ∧
  thenW (ww12.alloc (.cells #[.int .i64 0, .slice m11a m11n m11c] 85)) fun ww13 =>
  cellsAt ww13 (blk ww4.heap.size) [.slice xL9a xL9n xL9c, .int .i64 xEpoch10] 0 ∧
  Calls Try.prog 12 #[.agg #[.slice xL9a xL9n xL9c, .int .i64 xEpoch10], .agg #[.int .i64 3, .int .i64 0, .int .u64 0, .int .i64 0, .slice (some (blk ww12.heap.size)) 1 1, .slice none 0 0]] ww13 fun ee17 ww18 => ∃ (L14a : Option Addr) (L14n : Nat) (L14c : Nat) (Epoch15 : Int) (apply16 : Int), ee17 = .returned (.tuple #[.agg #[.slice L14a L14n L14c, .int .i64 Epoch15], .int .i64 apply16]) ∧
  canStore ww18 ((blk ww4.heap.size).add 0) ∧
  thenW (ww18.setCell ((blk ww4.heap.size).add 0) (.slice L14a L14n L14c)) fun ww19 =>
  canStore ww19 ((blk ww4.heap.size).add 1) ∧
  thenW (ww19.setCell ((blk ww4.heap.size).add 1) (.int .i64 Epoch15)) fun ww20 =>
  ∃ (xL21a : Option Addr) (xL21n : Nat) (xL21c : Nat) (xEpoch22 : Int), cellsAt ww20 (blk ww4.heap.size) [.slice xL21a xL21n xL21c, .int .i64 xEpoch22] 0 ∧
  Calls Try.prog 12 #[.agg #[.slice xL21a xL21n xL21c, .int .i64 xEpoch22], .agg #[.int .i64 1, .int .i64 1, .int .u64 6, .int .i64 0, .slice none 0 0, .slice none 0 0]] ww20 fun ee26 ww27 => ∃ (L23a : Option Addr) (L23n : Nat) (L23c : Nat) (Epoch24 : Int) (apply25 : Int), ee26 = .returned (.tuple #[.agg #[.slice L23a L23n L23c, .int .i64 Epoch24], .int .i64 apply25]) ∧
  canStore ww27 ((blk ww4.heap.size).add 0) ∧
  thenW (ww27.setCell ((blk ww4.heap.size).add 0) (.slice L23a L23n L23c)) fun ww28 =>
  canStore ww28 ((blk ww4.heap.size).add 1) ∧
  thenW (ww28.setCell ((blk ww4.heap.size).add 1) (.int .i64 Epoch24)) fun ww29 =>
  bif apply16 == 0 then (
  bif apply25 == 0 then (
  ∃ (xL30a : Option Addr) (xL30n : Nat) (xL30c : Nat) (xEpoch31 : Int), cellsAt ww29 (blk ww4.heap.size) [.slice xL30a xL30n xL30c, .int .i64 xEpoch31] 0 ∧
  Calls Try.prog 14 #[.agg #[.slice xL30a xL30n xL30c, .int .i64 xEpoch31], .int .i64 1, .int .i64 0, .int .i64 0] ww29 fun ee33 ww34 => ∃ (may32 : Int), ee33 = .returned (.int .i64 may32) ∧
  bif may32 == 10 then (
  ∃ (xL35a : Option Addr) (xL35n : Nat) (xL35c : Nat) (xEpoch36 : Int), cellsAt ww34 (blk ww4.heap.size) [.slice xL35a xL35n xL35c, .int .i64 xEpoch36] 0 ∧
  Calls Try.prog 14 #[.agg #[.slice xL35a xL35n xL35c, .int .i64 xEpoch36], .int .i64 1, .int .i64 0, .int .i64 1] ww34 fun ee38 ww39 => ∃ (may37 : Int), ee38 = .returned (.int .i64 may37) ∧
  bif may37 == 7 then (
  ∃ (xL40a : Option Addr) (xL40n : Nat) (xL40c : Nat) (xEpoch41 : Int), cellsAt ww39 (blk ww4.heap.size) [.slice xL40a xL40n xL40c, .int .i64 xEpoch41] 0 ∧
  Calls Try.prog 14 #[.agg #[.slice xL40a xL40n xL40c, .int .i64 xEpoch41], .int .i64 0, .int .i64 3, .int .i64 0] ww39 fun ee43 ww44 => ∃ (may42 : Int), ee43 = .returned (.int .i64 may42) ∧
  R (.bool (may42 == 0)) ww44) else (
  R (.bool false) ww39)) else (
  R (.bool false) ww34)) else (
  R (.bool false) ww29)) else (
  R (.bool false) ww29)

theorem cachettelaw12_alive.eq  (R : Value → World → Prop) (w : World) : mfunc Try.prog [] 10 [] R w = cachettelaw12_alive.M  R w := by kernel_rfl
theorem cachettelaw12_alive.ok  {R : Value → World → Prop} {w : World} (h : cachettelaw12_alive.M  R w) : Calls Try.prog 10 #[] w fun e w' => ∃ v, e = .returned v ∧ R v w' :=
  mfunc_ok follows (H := []) (args := []) (by rw [cachettelaw12_alive.eq]; exact h)

def cachettelaw12_alive.N  (R : Value → World → Prop) (w : World) : Prop :=
  Calls Try.prog 11 #[.int .u64 5] w fun ee3 ww4 => ∃ (L1a : Option Addr) (L1n : Nat) (L1c : Nat) (Epoch2 : Int), ee3 = .returned (.agg #[.slice L1a L1n L1c, .int .i64 Epoch2]) ∧
  ∀ (ww8 : World) (p9 : Nat), Ext no ww4 ww8 → Priv ww4 ww8 [p9] →
  ∃ (m10a : Option Addr) (m10n : Nat) (m10c : Nat) (ww11 : World), (Instr.makeSlice 34 (.int .i64 16) (.int .i64 16)).run Try.prog ww8 = .ok (.slice m10a m10n m10c) ww11 ∧
  Keep [p9] ww8 ww11 ∧
  ∀ (ww12 : World) (q13 : Nat), Ext no ww11 ww12 → Blk ww12 q13 85 [.int .i64 0, .slice m10a m10n m10c] → ww11.heap.size ≤ q13 → q13 < ww12.heap.size →
  Calls Try.prog 12 #[.agg #[.slice L1a L1n L1c, .int .i64 Epoch2], .agg #[.int .i64 3, .int .i64 0, .int .u64 0, .int .i64 0, .slice (some (blk q13)) 1 1, .slice none 0 0]] ww12 fun ee17 ww18 => ∃ (L14a : Option Addr) (L14n : Nat) (L14c : Nat) (Epoch15 : Int) (apply16 : Int), ee17 = .returned (.tuple #[.agg #[.slice L14a L14n L14c, .int .i64 Epoch15], .int .i64 apply16]) ∧
  Keep [p9] ww12 ww18 ∧
  ∀ (ww20 : World), Ext (fun b => b = p9) ww18 ww20 →
  Calls Try.prog 12 #[.agg #[.slice L14a L14n L14c, .int .i64 Epoch15], .agg #[.int .i64 1, .int .i64 1, .int .u64 6, .int .i64 0, .slice none 0 0, .slice none 0 0]] ww20 fun ee24 ww25 => ∃ (L21a : Option Addr) (L21n : Nat) (L21c : Nat) (Epoch22 : Int) (apply23 : Int), ee24 = .returned (.tuple #[.agg #[.slice L21a L21n L21c, .int .i64 Epoch22], .int .i64 apply23]) ∧
  Keep [p9] ww20 ww25 ∧
  (apply16 = 0 →
    (apply23 = 0 →
      ∀ (ww27 : World), Ext (fun b => b = p9) ww25 ww27 →
      Calls Try.prog 14 #[.agg #[.slice L21a L21n L21c, .int .i64 Epoch22], .int .i64 1, .int .i64 0, .int .i64 0] ww27 fun ee31 ww32 => ∃ (may30 : Int), ee31 = .returned (.int .i64 may30) ∧
      Keep [p9] ww27 ww32 ∧
      (may30 = 10 →
        Calls Try.prog 14 #[.agg #[.slice L21a L21n L21c, .int .i64 Epoch22], .int .i64 1, .int .i64 0, .int .i64 1] ww32 fun ee35 ww36 => ∃ (may34 : Int), ee35 = .returned (.int .i64 may34) ∧
        Keep [p9] ww32 ww36 ∧
        (may34 = 7 →
          Calls Try.prog 14 #[.agg #[.slice L21a L21n L21c, .int .i64 Epoch22], .int .i64 0, .int .i64 3, .int .i64 0] ww36 fun ee39 ww40 => ∃ (may38 : Int), ee39 = .returned (.int .i64 may38) ∧
          R (.bool (may38 == 0)) ww40) ∧
        (may34 ≠ 7 →
          R (.bool false) ww36)) ∧
      (may30 ≠ 10 →
        R (.bool false) ww32)) ∧
    (apply23 ≠ 0 →
      ∀ (ww27 : World), Ext (fun b => b = p9) ww25 ww27 →
      R (.bool false) ww27)) ∧
  (apply16 ≠ 0 →
    ∀ (ww27 : World), Ext (fun b => b = p9) ww25 ww27 →
    R (.bool false) ww27)

theorem cachettelaw12_alive.up  {R : Value → World → Prop} {w : World} (h : cachettelaw12_alive.N  R w) : cachettelaw12_alive.M  R w := by
  unfold cachettelaw12_alive.M
  unfold cachettelaw12_alive.N at h
  refine h.mono fun ee3 ww4 h => ?_
  obtain ⟨L1a, L1n, L1c, Epoch2, he, h⟩ := h
  refine ⟨L1a, L1n, L1c, Epoch2, he, ?_⟩
  refine thenW_in fun ww5 e5 => ?_
  have hb1 := Blk.of_new e5
  have hg1 := ((Ext.refl no ww4)).size
  have hx5 := (Ext.refl no ww4).x_alloc e5
  refine ⟨hb1.cani 0 rfl rfl, thenW_in fun ww6 e6 => ?_⟩
  have hx6 := hx5.x_set (q := ww4.heap.size) (i := 0) rfl (.inr hg1) e6
  have hb1 := hb1.seti 0 rfl e6
  refine ⟨hb1.cani 1 rfl rfl, thenW_in fun ww7 e7 => ?_⟩
  have hx7 := hx6.x_set (q := ww4.heap.size) (i := 1) rfl (.inr hg1) e7
  have hb1 := hb1.seti 1 rfl e7
  refine thenW_in fun ww8 e8 => ?_
  have hx8 := hx7.x_drew e8
  have hb1 := hb1.x_drew e8
  refine ⟨L1a, L1n, L1c, Epoch2, ⟨hb1.celli 0 rfl rfl, hb1.celli 1 rfl rfl, trivial⟩, ?_⟩
  have h := h ww8 (ww4.heap.size) hx8 (Priv.cons hg1 hb1.lt Priv.nil)
  obtain ⟨m10a, m10n, m10c, ww11, hr, hk, h⟩ := h
  refine ⟨m10a, m10n, m10c, ww11, hr, ?_⟩
  have hb1 := hk.blk hb1 (by simp)
  refine ⟨⟨hb1.celli 0 rfl rfl, hb1.celli 1 rfl rfl, trivial⟩, ?_⟩
  refine thenW_in fun ww12 e12 => ?_
  have hb1 := hb1.x_alloc e12
  have h := h ww12 ww11.heap.size ((Ext.refl no ww11).x_alloc e12) (Blk.of_new e12) ((Ext.refl no ww11)).size (size_lt_alloc e12)
  refine ⟨⟨hb1.celli 0 rfl rfl, hb1.celli 1 rfl rfl, trivial⟩, ?_⟩
  refine h.mono fun ee17 ww18 h => ?_
  obtain ⟨L14a, L14n, L14c, Epoch15, apply16, he, hk, h⟩ := h
  refine ⟨L14a, L14n, L14c, Epoch15, apply16, he, ?_⟩
  have hb1 := hk.blk hb1 (by simp)
  have hm20 : Ext (fun b => b = ww4.heap.size) ww18 ww18 := ((Ext.refl no ww18)).none
  refine ⟨hb1.cani 0 rfl rfl, thenW_in fun ww19 e19 => ?_⟩
  have hx19 := hm20.x_set (q := ww4.heap.size) (i := 0) rfl (.inl rfl) e19
  have hb1 := hb1.seti 0 rfl e19
  refine ⟨hb1.cani 1 rfl rfl, thenW_in fun ww20 e20 => ?_⟩
  have hx20 := hx19.x_set (q := ww4.heap.size) (i := 1) rfl (.inl rfl) e20
  have hb1 := hb1.seti 1 rfl e20
  refine ⟨L14a, L14n, L14c, Epoch15, ⟨hb1.celli 0 rfl rfl, hb1.celli 1 rfl rfl, trivial⟩, ?_⟩
  have h := h ww20 hx20
  refine h.mono fun ee24 ww25 h => ?_
  obtain ⟨L21a, L21n, L21c, Epoch22, apply23, he, hk, h⟩ := h
  refine ⟨L21a, L21n, L21c, Epoch22, apply23, he, ?_⟩
  have hb1 := hk.blk hb1 (by simp)
  have hm27 : Ext (fun b => b = ww4.heap.size) ww25 ww25 := ((Ext.refl no ww25)).none
  refine ⟨hb1.cani 0 rfl rfl, thenW_in fun ww26 e26 => ?_⟩
  have hx26 := hm27.x_set (q := ww4.heap.size) (i := 0) rfl (.inl rfl) e26
  have hb1 := hb1.seti 0 rfl e26
  refine ⟨hb1.cani 1 rfl rfl, thenW_in fun ww27 e27 => ?_⟩
  have hx27 := hx26.x_set (q := ww4.heap.size) (i := 1) rfl (.inl rfl) e27
  have hb1 := hb1.seti 1 rfl e27
  refine bif_of (fun c28 => ?_) (fun c28 => ?_)
  · have h := h.1 (beq_t c28)
    refine bif_of (fun c29 => ?_) (fun c29 => ?_)
    · have h := h.1 (beq_t c29)
      refine ⟨L21a, L21n, L21c, Epoch22, ⟨hb1.celli 0 rfl rfl, hb1.celli 1 rfl rfl, trivial⟩, ?_⟩
      have h := h ww27 hx27
      refine h.mono fun ee31 ww32 h => ?_
      obtain ⟨may30, he, hk, h⟩ := h
      refine ⟨may30, he, ?_⟩
      have hb1 := hk.blk hb1 (by simp)
      refine bif_of (fun c33 => ?_) (fun c33 => ?_)
      · have h := h.1 (beq_t c33)
        refine ⟨L21a, L21n, L21c, Epoch22, ⟨hb1.celli 0 rfl rfl, hb1.celli 1 rfl rfl, trivial⟩, ?_⟩
        refine h.mono fun ee35 ww36 h => ?_
        obtain ⟨may34, he, hk, h⟩ := h
        refine ⟨may34, he, ?_⟩
        have hb1 := hk.blk hb1 (by simp)
        refine bif_of (fun c37 => ?_) (fun c37 => ?_)
        · have h := h.1 (beq_t c37)
          refine ⟨L21a, L21n, L21c, Epoch22, ⟨hb1.celli 0 rfl rfl, hb1.celli 1 rfl rfl, trivial⟩, ?_⟩
          refine h.mono fun ee39 ww40 h => ?_
          obtain ⟨may38, he, h⟩ := h
          refine ⟨may38, he, ?_⟩
          exact h
        · have h := h.2 (beq_f c37)
          exact h
      · have h := h.2 (beq_f c33)
        exact h
    · have h := h.2 (beq_f c29)
      have h := h ww27 hx27
      exact h
  · have h := h.2 (beq_f c28)
    have h := h ww27 hx27
    exact h

theorem cachettelaw12_alive.go  {R : Value → World → Prop} {w : World} (h : cachettelaw12_alive.N  R w) : Calls Try.prog 10 #[] w fun e w' => ∃ v, e = .returned v ∧ R v w' := cachettelaw12_alive.ok  (cachettelaw12_alive.up  h)
theorem cachettelaw12_alive.run  {V : Value} {Q : World → Prop} {w : World} (h : cachettelaw12_alive.N  (fun v w' => v = V ∧ Q w') w) : Calls Try.prog 10 #[] w (Ret V Q) := (cachettelaw12_alive.go  h).mono fun e w' ⟨v, he, hv, hq⟩ => ⟨by rw [he, hv], hq⟩

end Go.Proofs.Ytmhfoieeldiecaa

