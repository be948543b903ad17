/- Members: predicates. -/
import Derived.Test.YtaifegpikhjiiaaZA
import Derived.Lib.Overlaps
import Derived.Lib.AppendZerosOnto
import Derived.Laws.IdiomCopy
import Derived.Laws.Externs
set_option linter.unusedVariables false
set_option linter.unusedSimpArgs false
set_option maxRecDepth 20000
set_option maxHeartbeats 2000000
namespace Go.Proofs.Ytaifegpikhjiiaa
open Go Go.Mx Go.Proofs
open W (OwnB)
def cmp_isNaN_int.M (x1 : Int) (R : Value → World → Prop) (w : World) : Prop :=
 R (.bool (x1 != x1)) w

theorem cmp_isNaN_int.eq (x1 : Int) (R : Value → World → Prop) (w : World) : mfunc Try.prog [] 89 [.int .i64 x1] R w = cmp_isNaN_int.M x1 R w := by kernel_rfl
theorem cmp_isNaN_int.ok (x1 : Int) {R : Value → World → Prop} {w : World} (h : cmp_isNaN_int.M x1 R w) : Calls Try.prog 89 #[.int .i64 x1] w fun e w' => ∃ v, e = .returned v ∧ R v w' :=
  mfunc_ok follows (H := []) (args := [.int .i64 x1]) (by rw [cmp_isNaN_int.eq]; exact h)

def cmp_isNaN_int.N (x1 : Int) (R : Value → World → Prop) (w : World) : Prop :=
 R (.bool (x1 != x1)) w

theorem cmp_isNaN_int.up (x1 : Int) {R : Value → World → Prop} {w : World} (h : cmp_isNaN_int.N x1 R w) : cmp_isNaN_int.M x1 R w := by
  unfold cmp_isNaN_int.M
  unfold cmp_isNaN_int.N at h
  exact h

theorem cmp_isNaN_int.go (x1 : Int) {R : Value → World → Prop} {w : World} (h : cmp_isNaN_int.N x1 R w) : Calls Try.prog 89 #[.int .i64 x1] w fun e w' => ∃ v, e = .returned v ∧ R v w' := cmp_isNaN_int.ok x1 (cmp_isNaN_int.up x1 h)
theorem cmp_isNaN_int.run (x1 : Int) {V : Value} {Q : World → Prop} {w : World} (h : cmp_isNaN_int.N x1 (fun v w' => v = V ∧ Q w') w) : Calls Try.prog 89 #[.int .i64 x1] w (Ret V Q) := (cmp_isNaN_int.go x1 h).mono fun e w' ⟨v, he, hv, hq⟩ => ⟨by rw [he, hv], hq⟩

def cmp_isNaN_int.F (x1 : Int) : Bool :=
  (x1 != x1)
theorem cmp_isNaN_int.pure (x1 : Int) {w : World} : Calls Try.prog 89 #[.int .i64 x1] w (Ret (.bool (cmp_isNaN_int.F x1)) fun w' => Ext no w w') := by
  refine cmp_isNaN_int.run x1 ?_
  unfold cmp_isNaN_int.N
  exact ⟨by unfold cmp_isNaN_int.F; rfl, Ext.refl _ _⟩

def cmp_Compare_int.M (x1 : Int) (y2 : Int) (R : Value → World → Prop) (w : World) : Prop :=
 Calls Try.prog 89 #[.int .i64 x1] w fun a5 a3 => ∃ (a1 : Bool), a5 = .returned (.bool a1) ∧
 Calls Try.prog 89 #[.int .i64 y2] a3 fun a4 a2 => ∃ (a0 : Bool), a4 = .returned (.bool a0) ∧
 bif a1 then (
 bif a0 then (
 R (.int .i64 0) a2) else (
 R (.int .i64 (-1)) a2)) else (
 bif a0 then (
 R (.int .i64 1) a2) else (
 bif decide (x1 < y2) then (
 R (.int .i64 (-1)) a2) else (
 bif decide (x1 > y2) then (
 R (.int .i64 1) a2) else (
 R (.int .i64 0) a2))))

theorem cmp_Compare_int.eq (x1 : Int) (y2 : Int) (R : Value → World → Prop) (w : World) : mfunc Try.prog [] 75 [.int .i64 x1, .int .i64 y2] R w = cmp_Compare_int.M x1 y2 R w := by kernel_rfl
theorem cmp_Compare_int.ok (x1 : Int) (y2 : Int) {R : Value → World → Prop} {w : World} (h : cmp_Compare_int.M x1 y2 R w) : Calls Try.prog 75 #[.int .i64 x1, .int .i64 y2] w fun e w' => ∃ v, e = .returned v ∧ R v w' :=
  mfunc_ok follows (H := []) (args := [.int .i64 x1, .int .i64 y2]) (by rw [cmp_Compare_int.eq]; exact h)

def cmp_Compare_int.N (x1 : Int) (y2 : Int) (R : Value → World → Prop) (w : World) : Prop :=
 ((cmp_isNaN_int.F x1) = true →
 ((cmp_isNaN_int.F y2) = true →
 ∀ (a0 : World), Ext no w a0 →
 R (.int .i64 0) a0) ∧
 ((cmp_isNaN_int.F y2) = false →
 ∀ (a0 : World), Ext no w a0 →
 R (.int .i64 (-1)) a0)) ∧
 ((cmp_isNaN_int.F x1) = false →
 ((cmp_isNaN_int.F y2) = true →
 ∀ (a0 : World), Ext no w a0 →
 R (.int .i64 1) a0) ∧
 ((cmp_isNaN_int.F y2) = false →
 (x1 < y2 →
 ∀ (a0 : World), Ext no w a0 →
 R (.int .i64 (-1)) a0) ∧
 (y2 ≤ x1 →
 (x1 > y2 →
 ∀ (a0 : World), Ext no w a0 →
 R (.int .i64 1) a0) ∧
 (x1 ≤ y2 →
 ∀ (a0 : World), Ext no w a0 →
 R (.int .i64 0) a0))))

theorem cmp_Compare_int.up (x1 : Int) (y2 : Int) {R : Value → World → Prop} {w : World} (h : cmp_Compare_int.N x1 y2 R w) : cmp_Compare_int.M x1 y2 R w := by
  unfold cmp_Compare_int.M
  unfold cmp_Compare_int.N at h
  refine (cmp_isNaN_int.pure x1).mono fun ee ww3 ⟨he, hxx⟩ => ⟨(cmp_isNaN_int.F x1), he, ?_⟩
  have a1 := (Ext.refl no w).trans hxx
  refine (cmp_isNaN_int.pure y2).mono fun ee ww4 ⟨he, hxx⟩ => ⟨(cmp_isNaN_int.F y2), he, ?_⟩
  have a0 := a1.trans hxx
  refine bif_of (fun c5 => ?_) (fun c5 => ?_)
  ·have h := h.1 c5
   refine bif_of (fun c6 => ?_) (fun c6 => ?_)
   ·have h := h.1 c6
    have h := h ww4 a0
    exact h
   have h := h.2 c6
   have h := h ww4 a0
   exact h
  have h := h.2 c5
  refine bif_of (fun c7 => ?_) (fun c7 => ?_)
  ·have h := h.1 c7
   have h := h ww4 a0
   exact h
  have h := h.2 c7
  refine bif_of (fun c8 => ?_) (fun c8 => ?_)
  ·have h := h.1 (of_decide_eq_true c8)
   have h := h ww4 a0
   exact h
  have h := h.2 (Int.not_lt.1 (of_decide_eq_false c8))
  refine bif_of (fun c9 => ?_) (fun c9 => ?_)
  ·have h := h.1 (of_decide_eq_true c9)
   have h := h ww4 a0
   exact h
  have h := h.2 (Int.not_lt.1 (of_decide_eq_false c9))
  have h := h ww4 a0
  exact h

theorem cmp_Compare_int.go (x1 : Int) (y2 : Int) {R : Value → World → Prop} {w : World} (h : cmp_Compare_int.N x1 y2 R w) : Calls Try.prog 75 #[.int .i64 x1, .int .i64 y2] w fun e w' => ∃ v, e = .returned v ∧ R v w' := cmp_Compare_int.ok x1 y2 (cmp_Compare_int.up x1 y2 h)
theorem cmp_Compare_int.run (x1 : Int) (y2 : Int) {V : Value} {Q : World → Prop} {w : World} (h : cmp_Compare_int.N x1 y2 (fun v w' => v = V ∧ Q w') w) : Calls Try.prog 75 #[.int .i64 x1, .int .i64 y2] w (Ret V Q) := (cmp_Compare_int.go x1 y2 h).mono fun e w' ⟨v, he, hv, hq⟩ => ⟨by rw [he, hv], hq⟩

def cmp_Compare_int.F (x1 : Int) (y2 : Int) : Int :=
  if (cmp_isNaN_int.F x1) = true then
    if (cmp_isNaN_int.F y2) = true then
      0
    else
      (-1)
  else
    if (cmp_isNaN_int.F y2) = true then
      1
    else
      if x1 < y2 then
        (-1)
      else
        if x1 > y2 then
          1
        else
          0
theorem cmp_Compare_int.pure (x1 : Int) (y2 : Int) {w : World} : Calls Try.prog 75 #[.int .i64 x1, .int .i64 y2] w (Ret (.int .i64 (cmp_Compare_int.F x1 y2)) fun w' => Ext no w w') := by
  refine cmp_Compare_int.run x1 y2 ?_
  unfold cmp_Compare_int.N
  refine ⟨fun c0 => ?_, fun c0 => ?_⟩
  ·refine ⟨fun c1 => ?_, fun c1 => ?_⟩
   ·intro w' hx; exact ⟨by unfold cmp_Compare_int.F; rw [if_pos c0, if_pos c1], hx⟩
   ·intro w' hx; exact ⟨by unfold cmp_Compare_int.F; rw [if_pos c0, if_neg (by rw [c1]; decide)], hx⟩
  ·refine ⟨fun c1 => ?_, fun c1 => ?_⟩
   ·intro w' hx; exact ⟨by unfold cmp_Compare_int.F; rw [if_neg (by rw [c0]; decide), if_pos c1], hx⟩
   ·refine ⟨fun c2 => ?_, fun c2 => ?_⟩
    ·intro w' hx; exact ⟨by unfold cmp_Compare_int.F; rw [if_neg (by rw [c0]; decide), if_neg (by rw [c1]; decide), if_pos c2], hx⟩
    ·refine ⟨fun c3 => ?_, fun c3 => ?_⟩
     ·intro w' hx; exact ⟨by unfold cmp_Compare_int.F; rw [if_neg (by rw [c0]; decide), if_neg (by rw [c1]; decide), if_neg (show ¬ (x1 < y2) from by omega), if_pos c3], hx⟩
     ·intro w' hx; exact ⟨by unfold cmp_Compare_int.F; rw [if_neg (by rw [c0]; decide), if_neg (by rw [c1]; decide), if_neg (show ¬ (x1 < y2) from by omega), if_neg (show ¬ (x1 > y2) from by omega)], hx⟩

def members_someone.M (a0 : Int) (R : Value → World → Prop) (w : World) : Prop :=
 bif decide (a0 ≥ 0) then (
 R (.bool (decide (a0 < 8))) w) else (
 R (.bool false) w)

theorem members_someone.eq (wv1 : Int) (R : Value → World → Prop) (w : World) : mfunc Try.prog [] 63 [.int .i64 wv1] R w = members_someone.M wv1 R w := by kernel_rfl
theorem members_someone.ok (a0 : Int) {R : Value → World → Prop} {w : World} (h : members_someone.M a0 R w) : Calls Try.prog 63 #[.int .i64 a0] w fun e w' => ∃ v, e = .returned v ∧ R v w' :=
  mfunc_ok follows (H := []) (args := [.int .i64 a0]) (by rw [members_someone.eq]; exact h)

def members_someone.N (a0 : Int) (R : Value → World → Prop) (w : World) : Prop :=
 (a0 ≥ 0 →
 R (.bool (decide (a0 < 8))) w) ∧
 (a0 < 0 →
 R (.bool false) w)

theorem members_someone.up (a0 : Int) {R : Value → World → Prop} {w : World} (h : members_someone.N a0 R w) : members_someone.M a0 R w := by
  unfold members_someone.M
  unfold members_someone.N at h
  refine bif_of (fun c2 => ?_) (fun c2 => ?_)
  ·have h := h.1 (of_decide_eq_true c2)
   exact h
  have h := h.2 (Int.not_le.1 (of_decide_eq_false c2))
  exact h

theorem members_someone.go (a0 : Int) {R : Value → World → Prop} {w : World} (h : members_someone.N a0 R w) : Calls Try.prog 63 #[.int .i64 a0] w fun e w' => ∃ v, e = .returned v ∧ R v w' := members_someone.ok a0 (members_someone.up a0 h)
theorem members_someone.run (a0 : Int) {V : Value} {Q : World → Prop} {w : World} (h : members_someone.N a0 (fun v w' => v = V ∧ Q w') w) : Calls Try.prog 63 #[.int .i64 a0] w (Ret V Q) := (members_someone.go a0 h).mono fun e w' ⟨v, he, hv, hq⟩ => ⟨by rw [he, hv], hq⟩

def members_someone.F (a0 : Int) : Bool :=
  if a0 ≥ 0 then
    (decide (a0 < 8))
  else
    false
theorem members_someone.pure (a0 : Int) {w : World} : Calls Try.prog 63 #[.int .i64 a0] w (Ret (.bool (members_someone.F a0)) fun w' => Ext no w w') := by
  refine members_someone.run a0 ?_
  unfold members_someone.N
  refine ⟨fun c0 => ?_, fun c0 => ?_⟩
  ·exact ⟨by unfold members_someone.F; rw [if_pos c0], Ext.refl _ _⟩
  ·exact ⟨by unfold members_someone.F; rw [if_neg (show ¬ (a0 ≥ 0) from by omega)], Ext.refl _ _⟩

abbrev members_boxes.J1 (j8 : Int) (j9 : Int) (I0 : Nat → List Value → World → Prop) (aj : Option Addr) (ak : Nat) (m5 : Nat) (R : Value → World → Prop) (a0 : World) : Prop :=
 aj.elim False fun ai =>
 0 ≤ (j9 : Int) ∧ (j9 : Int) < (ak : Int) ∧
 ∃ (a3 : Int) (a6 : Option Addr) (a9 : Nat) (a8 : Nat), cellsAt a0 (ai.add (Int.toNat j9 * 2)) [.int .i64 a3, .slice a6 a9 a8] 0 ∧
 thenW (a0.alloc (.cells #[.int .i64 0, .slice none 0 0] 60)) fun aa =>
 canStore aa ((blk a0.heap.size).add 0) ∧
 thenW (aa.setCell ((blk a0.heap.size).add 0) (.int .i64 a3)) fun ac =>
 canStore ac ((blk a0.heap.size).add 1) ∧
 thenW (ac.setCell ((blk a0.heap.size).add 1) (.slice a6 a9 a8)) fun ad =>
 ∃ (a5 : Int), ad.cell? ((blk a0.heap.size).add 0) = some (.int .i64 a5) ∧
 Calls Try.prog 63 #[.int .i64 a5] ad fun ag a2 => ∃ (a1 : Bool), ag = .returned (.bool a1) ∧
 bif !a1 then (
 R (.bool false) a2) else (
 ∃ (a7 : Int), a2.cell? ((blk a0.heap.size).add 0) = some (.int .i64 a7) ∧
 bif decide (a7 ≤ j8) then (
 R (.bool false) a2) else (
 ∃ (af : Option Addr) (ab : Nat) (ae : Nat), a2.cell? ((blk a0.heap.size).add 1) = some (.slice af ab ae) ∧
 bif (ab : Int) != 16 then (
 R (.bool false) a2) else (
 ∃ (a4 : Int), a2.cell? ((blk a0.heap.size).add 0) = some (.int .i64 a4) ∧
 ∃ ah, ah < m5 ∧ I0 ah [.int .i64 a4, .int .i64 (IntKind.i64.wrap (j9 + 1))] a2)))

def members_boxes.M (a3 : Option Addr) (a1 : Nat) (a4 : Nat) (R : Value → World → Prop) (w : World) : Prop :=
 ∃ (I0 : Nat → List Value → World → Prop) (m4 : Nat), I0 m4 [.int .i64 (-1), .int .i64 0] w ∧ ∀ (m5 : Nat) (a2 : World) (a0 : Int) (t3 : Int), I0 m5 [.int .i64 a0, .int .i64 t3] a2 →
 bif decide (t3 < (a1 : Int)) then (
 members_boxes.J1 a0 t3 I0 a3 a1 m5 R a2) else (
 R (.bool (decide ((a1 : Int) > 0))) a2)

theorem members_boxes.eq (l1a : Option Addr) (l1n : Nat) (l1c : Nat) (R : Value → World → Prop) (w : World) : mfunc Try.prog [(0, [0, 6, 7], [(3, (.one (.int .i64))), (8, (.one (.int .i64)))])] 64 [.slice l1a l1n l1c] R w = members_boxes.M l1a l1n l1c R w := by kernel_rfl
theorem members_boxes.ok (a1 : Option Addr) (a0 : Nat) (a2 : Nat) {R : Value → World → Prop} {w : World} (h : members_boxes.M a1 a0 a2 R w) : Calls Try.prog 64 #[.slice a1 a0 a2] w fun e w' => ∃ v, e = .returned v ∧ R v w' :=
  mfunc_ok follows (H := [(0, [0, 6, 7], [(3, (.one (.int .i64))), (8, (.one (.int .i64)))])]) (args := [.slice a1 a0 a2]) (by rw [members_boxes.eq]; exact h)

def members_boxes.N (aa : Option Addr) (a7 : Nat) (ab : Nat) (R : Value → World → Prop) (w : World) : Prop :=
 ∃ (I0 : Nat → List Value → World → Prop) (m4 : Nat), I0 m4 [.int .i64 (-1), .int .i64 0] w ∧ ∀ (m5 : Nat) (a4 : World) (a3 : Int) (t3 : Int), I0 m5 [.int .i64 a3, .int .i64 t3] a4 →
 (t3 < (a7 : Int) →
 ∃ a8 : Addr, aa = some a8 ∧
 0 ≤ (t3 : Int) ∧ (t3 : Int) < (a7 : Int) ∧
 ∃ (a0 : Int) (a6 : Option Addr) (a2 : Nat) (a5 : Nat), cellsAt a4 (a8.add (Int.toNat t3 * 2)) [.int .i64 a0, .slice a6 a2 a5] 0 ∧
 ((members_someone.F a0) = false →
 ∀ (a1 : World), Ext no a4 a1 →
 R (.bool false) a1) ∧
 ((members_someone.F a0) = true →
 (a0 ≤ a3 →
 ∀ (a1 : World), Ext no a4 a1 →
 R (.bool false) a1) ∧
 (a3 < a0 →
 ((a2 : Int) ≠ 16 →
 ∀ (a1 : World), Ext no a4 a1 →
 R (.bool false) a1) ∧
 ((a2 : Int) = 16 →
 (-9223372036854775808 : Int) ≤ (t3 + 1) ∧ (t3 + 1) < 9223372036854775808 ∧
 ∀ (a1 : World), Ext no a4 a1 →
 ∃ a9, a9 < m5 ∧ I0 a9 [.int .i64 a0, .int .i64 (t3 + 1)] a1)))) ∧
 ((a7 : Int) ≤ t3 →
 R (.bool (decide ((a7 : Int) > 0))) a4)

theorem members_boxes.up (ai : Option Addr) (ak : Nat) (al : Nat) {R : Value → World → Prop} {w : World} (h : members_boxes.N ai ak al R w) : members_boxes.M ai ak al R w := by
  unfold members_boxes.M
  unfold members_boxes.N at h
  obtain ⟨I0, m4, h0, h⟩ := h
  refine ⟨I0, m4, h0, fun m5 a6 a7 t3 hI => ?_⟩
  have h := h m5 a6 a7 t3 hI
  refine bif_fo (fun c7 => ?_) (fun c7 => ?_)
  ·have h := h.2 (Int.not_lt.1 (of_decide_eq_false c7))
   exact h
  have h := h.1 (of_decide_eq_true c7)
  unfold members_boxes.J1
  obtain ⟨a8, aw, h⟩ := h
  refine elim_some aw ?_
  obtain ⟨am, ar, h⟩ := h
  refine ⟨am, ar, ?_⟩
  obtain ⟨a0, a5, a3, a4, aq, h⟩ := h
  refine ⟨a0, a5, a3, a4, aq, ?_⟩
  refine thenW_in fun au af => ?_
  have a1 := Blk.of_new af
  have aj := ((Ext.refl no a6)).size
  have ab := (Ext.refl no a6).x_alloc af
  refine ⟨a1.cani 0 rfl rfl, thenW_in fun av ag => ?_⟩
  have ac := ab.x_set (q := a6.heap.size) (i := 0) rfl (.inr aj) ag
  have a1 := a1.seti 0 rfl ag
  refine ⟨a1.cani 1 rfl rfl, thenW_in fun ao ah => ?_⟩
  have a9 := ac.x_set (q := a6.heap.size) (i := 1) rfl (.inr aj) ah
  have a1 := a1.seti 1 rfl ah
  refine ⟨a0, a1.celli 0 rfl rfl, ?_⟩
  refine (members_someone.pure a0).mono fun ee ww15 ⟨he, hxx⟩ => ⟨(members_someone.F a0), he, ?_⟩
  have a2 := a9.trans hxx
  have a1 := a1.ext hxx id
  refine bif_of (fun aa => ?_) (fun aa => ?_)
  ·have h := h.1 (not_t aa)
   have h := h ww15 a2
   exact h
  have h := h.2 (not_f aa)
  refine ⟨a0, a1.celli 0 rfl rfl, ?_⟩
  refine bif_of (fun ad => ?_) (fun ad => ?_)
  ·have h := h.1 (of_decide_eq_true ad)
   have h := h ww15 a2
   exact h
  have h := h.2 (Int.not_le.1 (of_decide_eq_false ad))
  refine ⟨a5, a3, a4, a1.celli 1 rfl rfl, ?_⟩
  refine bif_of (fun ae => ?_) (fun ae => ?_)
  ·have h := h.1 (bne_t ae)
   have h := h ww15 a2
   exact h
  have h := h.2 (bne_f ae)
  refine ⟨a0, a1.celli 0 rfl rfl, ?_⟩
  obtain ⟨an, ap, h⟩ := h
  try rw [w64 an ap]
  have h := h ww15 a2
  obtain ⟨ax, hk, h⟩ := h
  exact ⟨ax, hk, h⟩

theorem members_boxes.go (a1 : Option Addr) (a0 : Nat) (a2 : Nat) {R : Value → World → Prop} {w : World} (h : members_boxes.N a1 a0 a2 R w) : Calls Try.prog 64 #[.slice a1 a0 a2] w fun e w' => ∃ v, e = .returned v ∧ R v w' := members_boxes.ok a1 a0 a2 (members_boxes.up a1 a0 a2 h)
theorem members_boxes.run (a1 : Option Addr) (a0 : Nat) (a2 : Nat) {V : Value} {Q : World → Prop} {w : World} (h : members_boxes.N a1 a0 a2 (fun v w' => v = V ∧ Q w') w) : Calls Try.prog 64 #[.slice a1 a0 a2] w (Ret V Q) := (members_boxes.go a1 a0 a2 h).mono fun e w' ⟨v, he, hv, hq⟩ => ⟨by rw [he, hv], hq⟩

def members_Right.M (bf : Int) (bm : Int) (az : Int) (b2 : Int) (ap : Option Addr) (ay : Nat) (ax : Nat) (bj : Option Addr) (bg : Nat) (bh : Nat) (R : Value → World → Prop) (w : World) : Prop :=
 thenW (w.alloc (.cells #[.int .i64 bf, .int .i64 bm, .int .u64 az, .int .i64 b2, .slice ap ay ax, .slice bj bg bh] 52)) fun br =>
 thenW (br.drew) fun bq =>
 ∃ (bn : Int), bq.cell? ((blk w.heap.size).add 1) = some (.int .i64 bn) ∧
 Calls Try.prog 63 #[.int .i64 bn] bq fun bp b3 => ∃ (a1 : Bool), bp = .returned (.bool a1) ∧
 bif !a1 then (
 R (.bool false) b3) else (
 ∃ (ae : Int), b3.cell? ((blk w.heap.size).add 0) = some (.int .i64 ae) ∧
 ∃ (ad : Option Addr) (a9 : Nat) (a5 : Nat), b3.cell? ((blk w.heap.size).add 4) = some (.slice ad a9 a5) ∧
 Calls Try.prog 64 #[.slice ad a9 a5] b3 fun bo a0 => ∃ (al : Bool), bo = .returned (.bool al) ∧
 a0.cell? ((blk w.heap.size).add 0) = some (.int .i64 ae) ∧
 bif !((ae == 3) == al) then (
 R (.bool false) a0) else (
 ∃ (aq : Int), a0.cell? ((blk w.heap.size).add 0) = some (.int .i64 aq) ∧
 bif aq != 3 then (
 ∃ (b1 : Option Addr) (aa : Nat) (ar : Nat), a0.cell? ((blk w.heap.size).add 4) = some (.slice b1 aa ar) ∧
 ∃ (bk : Option Addr) (av : Nat) (ba : Nat), a0.cell? ((blk w.heap.size).add 5) = some (.slice bk av ba) ∧
 bif decide ((IntKind.i64.wrap ((aa : Int) + (av : Int))) > 0) then (
 R (.bool false) a0) else (
 ∃ (a2 : Int), a0.cell? ((blk w.heap.size).add 0) = some (.int .i64 a2) ∧
 bif a2 == 1 then (
 ∃ (a6 : Int), a0.cell? ((blk w.heap.size).add 2) = some (.int .u64 a6) ∧
 bif a6 != 0 then (
 ∃ (af : Int), a0.cell? ((blk w.heap.size).add 3) = some (.int .i64 af) ∧
 R (.bool (af == 0)) a0) else (
 R (.bool false) a0)) else (
 bif a2 == 2 then (
 ∃ (b7 : Int), a0.cell? ((blk w.heap.size).add 1) = some (.int .i64 b7) ∧
 bif b7 != 0 then (
 ∃ (a4 : Int), a0.cell? ((blk w.heap.size).add 2) = some (.int .u64 a4) ∧
 bif a4 == 0 then (
 ∃ (ak : Int), a0.cell? ((blk w.heap.size).add 3) = some (.int .i64 ak) ∧
 bif decide (ak ≥ 0) then (
 ∃ (ai : Int), a0.cell? ((blk w.heap.size).add 3) = some (.int .i64 ai) ∧
 R (.bool (decide (ai ≤ 200))) a0) else (
 R (.bool false) a0)) else (
 R (.bool false) a0)) else (
 R (.bool false) a0)) else (
 bif a2 == 3 then (
 ∃ (b6 : Int), a0.cell? ((blk w.heap.size).add 1) = some (.int .i64 b6) ∧
 bif b6 == 0 then (
 ∃ (ab : Int), a0.cell? ((blk w.heap.size).add 2) = some (.int .u64 ab) ∧
 bif ab == 0 then (
 ∃ (ag : Int), a0.cell? ((blk w.heap.size).add 3) = some (.int .i64 ag) ∧
 bif ag == 0 then (
 ∃ (b8 : Option Addr) (ao : Nat) (b9 : Nat), a0.cell? ((blk w.heap.size).add 5) = some (.slice b8 ao b9) ∧
 bif (ao : Int) == 0 then (
 R (.bool true) a0) else (
 ∃ (be : Option Addr) (au : Nat) (bb : Nat), a0.cell? ((blk w.heap.size).add 5) = some (.slice be au bb) ∧
 R (.bool ((au : Int) == 24)) a0)) else (
 R (.bool false) a0)) else (
 R (.bool false) a0)) else (
 R (.bool false) a0)) else (
 R (.bool false) a0))))) else (
 ∃ (a3 : Int), a0.cell? ((blk w.heap.size).add 0) = some (.int .i64 a3) ∧
 bif a3 == 1 then (
 ∃ (ac : Int), a0.cell? ((blk w.heap.size).add 2) = some (.int .u64 ac) ∧
 bif ac != 0 then (
 ∃ (aj : Int), a0.cell? ((blk w.heap.size).add 3) = some (.int .i64 aj) ∧
 R (.bool (aj == 0)) a0) else (
 R (.bool false) a0)) else (
 bif a3 == 2 then (
 ∃ (b4 : Int), a0.cell? ((blk w.heap.size).add 1) = some (.int .i64 b4) ∧
 bif b4 != 0 then (
 ∃ (a8 : Int), a0.cell? ((blk w.heap.size).add 2) = some (.int .u64 a8) ∧
 bif a8 == 0 then (
 ∃ (am : Int), a0.cell? ((blk w.heap.size).add 3) = some (.int .i64 am) ∧
 bif decide (am ≥ 0) then (
 ∃ (ah : Int), a0.cell? ((blk w.heap.size).add 3) = some (.int .i64 ah) ∧
 R (.bool (decide (ah ≤ 200))) a0) else (
 R (.bool false) a0)) else (
 R (.bool false) a0)) else (
 R (.bool false) a0)) else (
 bif a3 == 3 then (
 ∃ (b5 : Int), a0.cell? ((blk w.heap.size).add 1) = some (.int .i64 b5) ∧
 bif b5 == 0 then (
 ∃ (a7 : Int), a0.cell? ((blk w.heap.size).add 2) = some (.int .u64 a7) ∧
 bif a7 == 0 then (
 ∃ (an : Int), a0.cell? ((blk w.heap.size).add 3) = some (.int .i64 an) ∧
 bif an == 0 then (
 ∃ (bd : Option Addr) (b0 : Nat) (bc : Nat), a0.cell? ((blk w.heap.size).add 5) = some (.slice bd b0 bc) ∧
 bif (b0 : Int) == 0 then (
 R (.bool true) a0) else (
 ∃ (bl : Option Addr) (aw : Nat) (bi : Nat), a0.cell? ((blk w.heap.size).add 5) = some (.slice bl aw bi) ∧
 R (.bool ((aw : Int) == 24)) a0)) else (
 R (.bool false) a0)) else (
 R (.bool false) a0)) else (
 R (.bool false) a0)) else (
 R (.bool false) a0))))))

theorem members_Right.eq (cKind1 : Int) (cWho2 : Int) (cPublic3 : Int) (cLimit4 : Int) (cWraps5a : Option Addr) (cWraps5n : Nat) (cWraps5c : Nat) (cOld6a : Option Addr) (cOld6n : Nat) (cOld6c : Nat) (R : Value → World → Prop) (w : World) : mfunc Try.prog [] 34 [.agg #[.int .i64 cKind1, .int .i64 cWho2, .int .u64 cPublic3, .int .i64 cLimit4, .slice cWraps5a cWraps5n cWraps5c, .slice cOld6a cOld6n cOld6c]] R w = members_Right.M cKind1 cWho2 cPublic3 cLimit4 cWraps5a cWraps5n cWraps5c cOld6a cOld6n cOld6c R w := by kernel_rfl
theorem members_Right.ok (a6 : Int) (a9 : Int) (a2 : Int) (a4 : Int) (a0 : Option Addr) (a1 : Nat) (a3 : Nat) (a5 : Option Addr) (a7 : Nat) (a8 : Nat) {R : Value → World → Prop} {w : World} (h : members_Right.M a6 a9 a2 a4 a0 a1 a3 a5 a7 a8 R w) : Calls Try.prog 34 #[.agg #[.int .i64 a6, .int .i64 a9, .int .u64 a2, .int .i64 a4, .slice a0 a1 a3, .slice a5 a7 a8]] w fun e w' => ∃ v, e = .returned v ∧ R v w' :=
  mfunc_ok follows (H := []) (args := [.agg #[.int .i64 a6, .int .i64 a9, .int .u64 a2, .int .i64 a4, .slice a0 a1 a3, .slice a5 a7 a8]]) (by rw [members_Right.eq]; exact h)

def members_Right.N (a1 : Int) (a6 : Int) (a0 : Int) (a2 : Int) (a8 : Option Addr) (a5 : Nat) (a9 : Nat) (ab : Option Addr) (a4 : Nat) (ad : Nat) (R : Value → World → Prop) (w : World) : Prop :=
 ((members_someone.F a6) = false →
 ∀ (aa : World), Ext no w aa →
 R (.bool false) aa) ∧
 ((members_someone.F a6) = true →
 ∀ (aa : World) (ae : Nat), Ext no w aa → Priv w aa [ae] →
 Calls Try.prog 64 #[.slice a8 a5 a9] aa fun ac a3 => ∃ (a7 : Bool), ac = .returned (.bool a7) ∧
 Keep [ae] aa a3 ∧
 ((a1 == 3) ≠ a7 →
 R (.bool false) a3) ∧
 ((a1 == 3) = a7 →
 (a1 ≠ 3 →
 (-9223372036854775808 : Int) ≤ ((a5 : Int) + (a4 : Int)) ∧ ((a5 : Int) + (a4 : Int)) < 9223372036854775808 ∧
 (((a5 : Int) + (a4 : Int)) > 0 →
 R (.bool false) a3) ∧
 (((a5 : Int) + (a4 : Int)) ≤ 0 →
 (a1 = 1 →
 (a0 ≠ 0 →
 R (.bool (a2 == 0)) a3) ∧
 (a0 = 0 →
 R (.bool false) a3)) ∧
 (a1 ≠ 1 →
 (a1 = 2 →
 (a6 ≠ 0 →
 (a0 = 0 →
 (a2 ≥ 0 →
 R (.bool (decide (a2 ≤ 200))) a3) ∧
 (a2 < 0 →
 R (.bool false) a3)) ∧
 (a0 ≠ 0 →
 R (.bool false) a3)) ∧
 (a6 = 0 →
 R (.bool false) a3)) ∧
 (a1 ≠ 2 →
 (a1 = 3 →
 (a6 = 0 →
 (a0 = 0 →
 (a2 = 0 →
 ((a4 : Int) = 0 →
 R (.bool true) a3) ∧
 ((a4 : Int) ≠ 0 →
 R (.bool ((a4 : Int) == 24)) a3)) ∧
 (a2 ≠ 0 →
 R (.bool false) a3)) ∧
 (a0 ≠ 0 →
 R (.bool false) a3)) ∧
 (a6 ≠ 0 →
 R (.bool false) a3)) ∧
 (a1 ≠ 3 →
 R (.bool false) a3))))) ∧
 (a1 = 3 →
 (a1 = 1 →
 (a0 ≠ 0 →
 R (.bool (a2 == 0)) a3) ∧
 (a0 = 0 →
 R (.bool false) a3)) ∧
 (a1 ≠ 1 →
 (a1 = 2 →
 (a6 ≠ 0 →
 (a0 = 0 →
 (a2 ≥ 0 →
 R (.bool (decide (a2 ≤ 200))) a3) ∧
 (a2 < 0 →
 R (.bool false) a3)) ∧
 (a0 ≠ 0 →
 R (.bool false) a3)) ∧
 (a6 = 0 →
 R (.bool false) a3)) ∧
 (a1 ≠ 2 →
 (a1 = 3 →
 (a6 = 0 →
 (a0 = 0 →
 (a2 = 0 →
 ((a4 : Int) = 0 →
 R (.bool true) a3) ∧
 ((a4 : Int) ≠ 0 →
 R (.bool ((a4 : Int) == 24)) a3)) ∧
 (a2 ≠ 0 →
 R (.bool false) a3)) ∧
 (a0 ≠ 0 →
 R (.bool false) a3)) ∧
 (a6 ≠ 0 →
 R (.bool false) a3)) ∧
 (a1 ≠ 3 →
 R (.bool false) a3))))))

theorem members_Right.up (aa : Int) (a9 : Int) (a1 : Int) (a0 : Int) (a6 : Option Addr) (a8 : Nat) (a7 : Nat) (a5 : Option Addr) (a3 : Nat) (a4 : Nat) {R : Value → World → Prop} {w : World} (h : members_Right.N aa a9 a1 a0 a6 a8 a7 a5 a3 a4 R w) : members_Right.M aa a9 a1 a0 a6 a8 a7 a5 a3 a4 R w := by
  unfold members_Right.M
  unfold members_Right.N at h
  refine thenW_in fun bd e7 => ?_
  have a2 := Blk.of_new e7
  have ba := ((Ext.refl no w)).size
  have b6 := (Ext.refl no w).x_alloc e7
  refine thenW_in fun bc e8 => ?_
  have b9 := b6.x_drew e8
  have a2 := a2.x_drew e8
  refine ⟨a9, a2.celli 1 rfl rfl, ?_⟩
  refine (members_someone.pure a9).mono fun ee ww9 ⟨he, hxx⟩ => ⟨(members_someone.F a9), he, ?_⟩
  have b4 := b9.trans hxx
  have a2 := a2.ext hxx id
  refine bif_of (fun ay => ?_) (fun ay => ?_)
  ·have h := h.1 (not_t ay)
   have h := h ww9 b4
   exact h
  have h := h.2 (not_f ay)
  refine ⟨aa, a2.celli 0 rfl rfl, ?_⟩
  refine ⟨a6, a8, a7, a2.celli 4 rfl rfl, ?_⟩
  have h := h ww9 (w.heap.size) b4 (Priv.cons ba a2.lt Priv.nil)
  refine h.mono fun b5 bb h => ?_
  obtain ⟨ab, he, hk, h⟩ := h
  refine ⟨ab, he, ?_⟩
  have a2 := hk.blk a2 (by simp)
  refine ⟨a2.celli 0 rfl rfl, ?_⟩
  refine bif_of (fun an => ?_) (fun an => ?_)
  ·have h := h.1 (bbeq_f (not_t an))
   exact h
  have h := h.2 (bbeq_t (not_f an))
  refine ⟨aa, a2.celli 0 rfl rfl, ?_⟩
  refine bif_fo (fun ag => ?_) (fun ag => ?_)
  ·have h := h.2 (bne_f ag)
   refine ⟨aa, a2.celli 0 rfl rfl, ?_⟩
   refine bif_of (fun ax => ?_) (fun ax => ?_)
   ·have h := h.1 (beq_t ax)
    refine ⟨a1, a2.celli 2 rfl rfl, ?_⟩
    refine bif_fo (fun b2 => ?_) (fun b2 => ?_)
    ·have h := h.2 (bne_f b2)
     exact h
    have h := h.1 (bne_t b2)
    refine ⟨a0, a2.celli 3 rfl rfl, ?_⟩
    exact h
   have h := h.2 (beq_f ax)
   refine bif_of (fun aq => ?_) (fun aq => ?_)
   ·have h := h.1 (beq_t aq)
    refine ⟨a9, a2.celli 1 rfl rfl, ?_⟩
    refine bif_fo (fun ak => ?_) (fun ak => ?_)
    ·have h := h.2 (bne_f ak)
     exact h
    have h := h.1 (bne_t ak)
    refine ⟨a1, a2.celli 2 rfl rfl, ?_⟩
    refine bif_fo (fun al => ?_) (fun al => ?_)
    ·have h := h.2 (beq_f al)
     exact h
    have h := h.1 (beq_t al)
    refine ⟨a0, a2.celli 3 rfl rfl, ?_⟩
    refine bif_fo (fun av => ?_) (fun av => ?_)
    ·have h := h.2 (Int.not_le.1 (of_decide_eq_false av))
     exact h
    have h := h.1 (of_decide_eq_true av)
    refine ⟨a0, a2.celli 3 rfl rfl, ?_⟩
    exact h
   have h := h.2 (beq_f aq)
   refine bif_fo (fun ah => ?_) (fun ah => ?_)
   ·have h := h.2 (beq_f ah)
    exact h
   have h := h.1 (beq_t ah)
   refine ⟨a9, a2.celli 1 rfl rfl, ?_⟩
   refine bif_fo (fun aw => ?_) (fun aw => ?_)
   ·have h := h.2 (beq_f aw)
    exact h
   have h := h.1 (beq_t aw)
   refine ⟨a1, a2.celli 2 rfl rfl, ?_⟩
   refine bif_fo (fun am => ?_) (fun am => ?_)
   ·have h := h.2 (beq_f am)
    exact h
   have h := h.1 (beq_t am)
   refine ⟨a0, a2.celli 3 rfl rfl, ?_⟩
   refine bif_fo (fun ap => ?_) (fun ap => ?_)
   ·have h := h.2 (beq_f ap)
    exact h
   have h := h.1 (beq_t ap)
   refine ⟨a5, a3, a4, a2.celli 5 rfl rfl, ?_⟩
   refine bif_of (fun b3 => ?_) (fun b3 => ?_)
   ·have h := h.1 (beq_t b3)
    exact h
   have h := h.2 (beq_f b3)
   refine ⟨a5, a3, a4, a2.celli 5 rfl rfl, ?_⟩
   exact h
  have h := h.1 (bne_t ag)
  refine ⟨a6, a8, a7, a2.celli 4 rfl rfl, ?_⟩
  refine ⟨a5, a3, a4, a2.celli 5 rfl rfl, ?_⟩
  obtain ⟨b7, b8, h⟩ := h
  try rw [w64 b7 b8]
  refine bif_of (fun au => ?_) (fun au => ?_)
  ·have h := h.1 (of_decide_eq_true au)
   exact h
  have h := h.2 (Int.not_lt.1 (of_decide_eq_false au))
  refine ⟨aa, a2.celli 0 rfl rfl, ?_⟩
  refine bif_of (fun ao => ?_) (fun ao => ?_)
  ·have h := h.1 (beq_t ao)
   refine ⟨a1, a2.celli 2 rfl rfl, ?_⟩
   refine bif_fo (fun az => ?_) (fun az => ?_)
   ·have h := h.2 (bne_f az)
    exact h
   have h := h.1 (bne_t az)
   refine ⟨a0, a2.celli 3 rfl rfl, ?_⟩
   exact h
  have h := h.2 (beq_f ao)
  refine bif_of (fun ai => ?_) (fun ai => ?_)
  ·have h := h.1 (beq_t ai)
   refine ⟨a9, a2.celli 1 rfl rfl, ?_⟩
   refine bif_fo (fun aj => ?_) (fun aj => ?_)
   ·have h := h.2 (bne_f aj)
    exact h
   have h := h.1 (bne_t aj)
   refine ⟨a1, a2.celli 2 rfl rfl, ?_⟩
   refine bif_fo (fun ac => ?_) (fun ac => ?_)
   ·have h := h.2 (beq_f ac)
    exact h
   have h := h.1 (beq_t ac)
   refine ⟨a0, a2.celli 3 rfl rfl, ?_⟩
   refine bif_fo (fun ar => ?_) (fun ar => ?_)
   ·have h := h.2 (Int.not_le.1 (of_decide_eq_false ar))
    exact h
   have h := h.1 (of_decide_eq_true ar)
   refine ⟨a0, a2.celli 3 rfl rfl, ?_⟩
   exact h
  have h := h.2 (beq_f ai)
  refine bif_fo (fun ad => ?_) (fun ad => ?_)
  ·have h := h.2 (beq_f ad)
   exact h
  have h := h.1 (beq_t ad)
  refine ⟨a9, a2.celli 1 rfl rfl, ?_⟩
  refine bif_fo (fun af => ?_) (fun af => ?_)
  ·have h := h.2 (beq_f af)
   exact h
  have h := h.1 (beq_t af)
  refine ⟨a1, a2.celli 2 rfl rfl, ?_⟩
  refine bif_fo (fun b0 => ?_) (fun b0 => ?_)
  ·have h := h.2 (beq_f b0)
   exact h
  have h := h.1 (beq_t b0)
  refine ⟨a0, a2.celli 3 rfl rfl, ?_⟩
  refine bif_fo (fun b1 => ?_) (fun b1 => ?_)
  ·have h := h.2 (beq_f b1)
   exact h
  have h := h.1 (beq_t b1)
  refine ⟨a5, a3, a4, a2.celli 5 rfl rfl, ?_⟩
  refine bif_of (fun ae => ?_) (fun ae => ?_)
  ·have h := h.1 (beq_t ae)
   exact h
  have h := h.2 (beq_f ae)
  refine ⟨a5, a3, a4, a2.celli 5 rfl rfl, ?_⟩
  exact h

theorem members_Right.go (a6 : Int) (a9 : Int) (a2 : Int) (a4 : Int) (a0 : Option Addr) (a1 : Nat) (a3 : Nat) (a5 : Option Addr) (a7 : Nat) (a8 : Nat) {R : Value → World → Prop} {w : World} (h : members_Right.N a6 a9 a2 a4 a0 a1 a3 a5 a7 a8 R w) : Calls Try.prog 34 #[.agg #[.int .i64 a6, .int .i64 a9, .int .u64 a2, .int .i64 a4, .slice a0 a1 a3, .slice a5 a7 a8]] w fun e w' => ∃ v, e = .returned v ∧ R v w' := members_Right.ok a6 a9 a2 a4 a0 a1 a3 a5 a7 a8 (members_Right.up a6 a9 a2 a4 a0 a1 a3 a5 a7 a8 h)
theorem members_Right.run (a6 : Int) (a9 : Int) (a2 : Int) (a4 : Int) (a0 : Option Addr) (a1 : Nat) (a3 : Nat) (a5 : Option Addr) (a7 : Nat) (a8 : Nat) {V : Value} {Q : World → Prop} {w : World} (h : members_Right.N a6 a9 a2 a4 a0 a1 a3 a5 a7 a8 (fun v w' => v = V ∧ Q w') w) : Calls Try.prog 34 #[.agg #[.int .i64 a6, .int .i64 a9, .int .u64 a2, .int .i64 a4, .slice a0 a1 a3, .slice a5 a7 a8]] w (Ret V Q) := (members_Right.go a6 a9 a2 a4 a0 a1 a3 a5 a7 a8 h).mono fun e w' ⟨v, he, hv, hq⟩ => ⟨by rw [he, hv], hq⟩

def members_New.M (a4 : Int) (R : Value → World → Prop) (w : World) : Prop :=
 thenW (w.alloc (.cells #[.slice none 0 0, .int .i64 0] 43)) fun a8 =>
 thenW (a8.alloc (.cells #[.int .i64 0, .int .u64 a4, .int .i64 0, .int .i64 (-1), .int .i64 0] 70)) fun a7 =>
 canStore a7 ((blk w.heap.size).add 0) ∧
 thenW (a7.setCell ((blk w.heap.size).add 0) (.slice (some (blk a8.heap.size)) 1 1)) fun a6 =>
 canStore a6 ((blk w.heap.size).add 1) ∧
 thenW (a6.setCell ((blk w.heap.size).add 1) (.int .i64 (-1))) fun a5 =>
 ∃ (a2 : Option Addr) (a1 : Nat) (a3 : Nat) (a0 : Int), cellsAt a5 (blk w.heap.size) [.slice a2 a1 a3, .int .i64 a0] 0 ∧
 R (.agg #[.slice a2 a1 a3, .int .i64 a0]) a5

theorem members_New.eq (publicv1 : Int) (R : Value → World → Prop) (w : World) : mfunc Try.prog [] 20 [.int .u64 publicv1] R w = members_New.M publicv1 R w := by kernel_rfl
theorem members_New.ok (a0 : Int) {R : Value → World → Prop} {w : World} (h : members_New.M a0 R w) : Calls Try.prog 20 #[.int .u64 a0] w fun e w' => ∃ v, e = .returned v ∧ R v w' :=
  mfunc_ok follows (H := []) (args := [.int .u64 a0]) (by rw [members_New.eq]; exact h)

def members_New.N (a0 : Int) (R : Value → World → Prop) (w : World) : Prop :=
 ∀ (a1 : World) (q4 : Nat) (p5 : Nat), Ext no w a1 → Blk a1 q4 70 [.int .i64 0, .int .u64 a0, .int .i64 0, .int .i64 (-1), .int .i64 0] → w.heap.size ≤ q4 → q4 < a1.heap.size → Privq w q4 [p5] →
 ∀ (a2 : World), Ext (fun b => b = p5) a1 a2 →
 R (.agg #[.slice (some (blk q4)) 1 1, .int .i64 (-1)]) a2

theorem members_New.up (a0 : Int) {R : Value → World → Prop} {w : World} (h : members_New.N a0 R w) : members_New.M a0 R w := by
  unfold members_New.M
  unfold members_New.N at h
  refine thenW_in fun a4 e2 => ?_
  have a1 := Blk.of_new e2
  have a8 := ((Ext.refl no w)).size
  have a3 := (Ext.refl no w).x_alloc e2
  refine thenW_in fun a2 e3 => ?_
  have a6 := a1.lt
  have a1 := a1.x_alloc e3
  have h := h a2 a4.heap.size (w.heap.size) (a3.x_alloc e3) (Blk.of_new e3) (a3).size (size_lt_alloc e3) (Privq.cons a8 a6 Privq.nil)
  have a9 : Ext (fun b => b = w.heap.size) a2 a2 := ((Ext.refl no a2)).none
  refine ⟨a1.cani 0 rfl rfl, thenW_in fun ab e6 => ?_⟩
  have aa := a9.x_set (q := w.heap.size) (i := 0) rfl (.inl rfl) e6
  have a1 := a1.seti 0 rfl e6
  refine ⟨a1.cani 1 rfl rfl, thenW_in fun a5 e7 => ?_⟩
  have a7 := aa.x_set (q := w.heap.size) (i := 1) rfl (.inl rfl) e7
  have a1 := a1.seti 1 rfl e7
  refine ⟨(some (blk a4.heap.size)), 1, 1, (-1), ⟨a1.celli 0 rfl rfl, a1.celli 1 rfl rfl, trivial⟩, ?_⟩
  have h := h a5 a7
  exact h

theorem members_New.go (a0 : Int) {R : Value → World → Prop} {w : World} (h : members_New.N a0 R w) : Calls Try.prog 20 #[.int .u64 a0] w fun e w' => ∃ v, e = .returned v ∧ R v w' := members_New.ok a0 (members_New.up a0 h)
def members_State_find.M (a3 : Option Addr) (a4 : Nat) (a5 : Nat) (a2 : Int) (a6 : Int) (R : Value → World → Prop) (w : World) : Prop :=
 thenW (w.alloc (.cells #[.slice a3 a4 a5, .int .i64 a2] 43)) fun a7 =>
 ∃ (a8 : Option Addr) (aa : Nat) (a9 : Nat), a7.cell? ((blk w.heap.size).add 0) = some (.slice a8 aa a9) ∧
 Calls Try.prog 73 #[.slice a8 aa a9, .int .i64 a6, .func (.func 74) #[] #[]] a7 fun ab ac => ∃ (a1 : Int) (a0 : Bool), ab = .returned (.tuple #[.int .i64 a1, .bool a0]) ∧
 R (.tuple #[.int .i64 a1, .bool a0]) ac

theorem members_State_find.eq (sL1a : Option Addr) (sL1n : Nat) (sL1c : Nat) (sEpoch2 : Int) (who3 : Int) (R : Value → World → Prop) (w : World) : mfunc Try.prog [] 47 [.agg #[.slice sL1a sL1n sL1c, .int .i64 sEpoch2], .int .i64 who3] R w = members_State_find.M sL1a sL1n sL1c sEpoch2 who3 R w := by kernel_rfl
theorem members_State_find.ok (a1 : Option Addr) (a2 : Nat) (a3 : Nat) (a0 : Int) (a4 : Int) {R : Value → World → Prop} {w : World} (h : members_State_find.M a1 a2 a3 a0 a4 R w) : Calls Try.prog 47 #[.agg #[.slice a1 a2 a3, .int .i64 a0], .int .i64 a4] w fun e w' => ∃ v, e = .returned v ∧ R v w' :=
  mfunc_ok follows (H := []) (args := [.agg #[.slice a1 a2 a3, .int .i64 a0], .int .i64 a4]) (by rw [members_State_find.eq]; exact h)

def members_State_find.N (a3 : Option Addr) (a4 : Nat) (a5 : Nat) (a2 : Int) (a6 : Int) (R : Value → World → Prop) (w : World) : Prop :=
 ∀ (a7 : World), Ext no w a7 →
 Calls Try.prog 73 #[.slice a3 a4 a5, .int .i64 a6, .func (.func 74) #[] #[]] a7 fun a8 a9 => ∃ (a1 : Int) (a0 : Bool), a8 = .returned (.tuple #[.int .i64 a1, .bool a0]) ∧
 R (.tuple #[.int .i64 a1, .bool a0]) a9

theorem members_State_find.up (a3 : Option Addr) (a4 : Nat) (a5 : Nat) (a0 : Int) (a6 : Int) {R : Value → World → Prop} {w : World} (h : members_State_find.N a3 a4 a5 a0 a6 R w) : members_State_find.M a3 a4 a5 a0 a6 R w := by
  unfold members_State_find.M
  unfold members_State_find.N at h
  refine thenW_in fun a7 e4 => ?_
  have a9 := Blk.of_new e4
  have aa := ((Ext.refl no w)).size
  have a8 := (Ext.refl no w).x_alloc e4
  refine ⟨a3, a4, a5, a9.celli 0 rfl rfl, ?_⟩
  have h := h a7 a8
  refine h.mono fun ab ac h => ?_
  obtain ⟨a2, a1, he, h⟩ := h
  refine ⟨a2, a1, he, ?_⟩
  exact h

theorem members_State_find.go (a1 : Option Addr) (a2 : Nat) (a3 : Nat) (a0 : Int) (a4 : Int) {R : Value → World → Prop} {w : World} (h : members_State_find.N a1 a2 a3 a0 a4 R w) : Calls Try.prog 47 #[.agg #[.slice a1 a2 a3, .int .i64 a0], .int .i64 a4] w fun e w' => ∃ v, e = .returned v ∧ R v w' := members_State_find.ok a1 a2 a3 a0 a4 (members_State_find.up a1 a2 a3 a0 a4 h)
theorem members_State_find.run (a1 : Option Addr) (a2 : Nat) (a3 : Nat) (a0 : Int) (a4 : Int) {V : Value} {Q : World → Prop} {w : World} (h : members_State_find.N a1 a2 a3 a0 a4 (fun v w' => v = V ∧ Q w') w) : Calls Try.prog 47 #[.agg #[.slice a1 a2 a3, .int .i64 a0], .int .i64 a4] w (Ret V Q) := (members_State_find.go a1 a2 a3 a0 a4 h).mono fun e w' ⟨v, he, hv, hq⟩ => ⟨by rw [he, hv], hq⟩

def members_State_find_1.M (a4 : Int) (a1 : Int) (a3 : Int) (a7 : Int) (a2 : Int) (aa : Int) (R : Value → World → Prop) (w : World) : Prop :=
 thenW (w.alloc (.cells #[.int .i64 a4, .int .u64 a1, .int .i64 a3, .int .i64 a7, .int .i64 a2] 70)) fun a9 =>
 ∃ (a5 : Int), a9.cell? ((blk w.heap.size).add 0) = some (.int .i64 a5) ∧
 Calls Try.prog 75 #[.int .i64 a5, .int .i64 aa] a9 fun a6 a8 => ∃ (a0 : Int), a6 = .returned (.int .i64 a0) ∧
 R (.int .i64 a0) a8

theorem members_State_find_1.eq (mWho1 : Int) (mPublic2 : Int) (mFrom3 : Int) (mTo4 : Int) (mLimit5 : Int) (wv6 : Int) (R : Value → World → Prop) (w : World) : mfunc Try.prog [] 74 [.agg #[.int .i64 mWho1, .int .u64 mPublic2, .int .i64 mFrom3, .int .i64 mTo4, .int .i64 mLimit5], .int .i64 wv6] R w = members_State_find_1.M mWho1 mPublic2 mFrom3 mTo4 mLimit5 wv6 R w := by kernel_rfl
theorem members_State_find_1.ok (a3 : Int) (a0 : Int) (a2 : Int) (a4 : Int) (a1 : Int) (a5 : Int) {R : Value → World → Prop} {w : World} (h : members_State_find_1.M a3 a0 a2 a4 a1 a5 R w) : Calls Try.prog 74 #[.agg #[.int .i64 a3, .int .u64 a0, .int .i64 a2, .int .i64 a4, .int .i64 a1], .int .i64 a5] w fun e w' => ∃ v, e = .returned v ∧ R v w' :=
  mfunc_ok follows (H := []) (args := [.agg #[.int .i64 a3, .int .u64 a0, .int .i64 a2, .int .i64 a4, .int .i64 a1], .int .i64 a5]) (by rw [members_State_find_1.eq]; exact h)

def members_State_find_1.N (a0 : Int) (a1 : Int) (a3 : Int) (a5 : Int) (a2 : Int) (a6 : Int) (R : Value → World → Prop) (w : World) : Prop :=
 ∀ (a4 : World), Ext no w a4 →
 R (.int .i64 (cmp_Compare_int.F a0 a6)) a4

theorem members_State_find_1.up (a0 : Int) (a1 : Int) (a3 : Int) (a4 : Int) (a2 : Int) (a5 : Int) {R : Value → World → Prop} {w : World} (h : members_State_find_1.N a0 a1 a3 a4 a2 a5 R w) : members_State_find_1.M a0 a1 a3 a4 a2 a5 R w := by
  unfold members_State_find_1.M
  unfold members_State_find_1.N at h
  refine thenW_in fun a9 e7 => ?_
  have a8 := Blk.of_new e7
  have aa := ((Ext.refl no w)).size
  have a7 := (Ext.refl no w).x_alloc e7
  refine ⟨a0, a8.celli 0 rfl rfl, ?_⟩
  refine (cmp_Compare_int.pure a0 a5).mono fun ee ww8 ⟨he, hxx⟩ => ⟨(cmp_Compare_int.F a0 a5), he, ?_⟩
  have a6 := a7.trans hxx
  have h := h ww8 a6
  exact h

theorem members_State_find_1.go (a3 : Int) (a0 : Int) (a2 : Int) (a4 : Int) (a1 : Int) (a5 : Int) {R : Value → World → Prop} {w : World} (h : members_State_find_1.N a3 a0 a2 a4 a1 a5 R w) : Calls Try.prog 74 #[.agg #[.int .i64 a3, .int .u64 a0, .int .i64 a2, .int .i64 a4, .int .i64 a1], .int .i64 a5] w fun e w' => ∃ v, e = .returned v ∧ R v w' := members_State_find_1.ok a3 a0 a2 a4 a1 a5 (members_State_find_1.up a3 a0 a2 a4 a1 a5 h)
theorem members_State_find_1.run (a3 : Int) (a0 : Int) (a2 : Int) (a4 : Int) (a1 : Int) (a5 : Int) {V : Value} {Q : World → Prop} {w : World} (h : members_State_find_1.N a3 a0 a2 a4 a1 a5 (fun v w' => v = V ∧ Q w') w) : Calls Try.prog 74 #[.agg #[.int .i64 a3, .int .u64 a0, .int .i64 a2, .int .i64 a4, .int .i64 a1], .int .i64 a5] w (Ret V Q) := (members_State_find_1.go a3 a0 a2 a4 a1 a5 h).mono fun e w' ⟨v, he, hv, hq⟩ => ⟨by rw [he, hv], hq⟩

def members_State_begin_1.M (a5 : Int) (a0 : Int) (a4 : Int) (a8 : Int) (a1 : Int) (a6 : Int) (aa : Option Addr) (a9 : Nat) (a7 : Nat) (R : Value → World → Prop) (w : World) : Prop :=
 thenW (w.alloc (.cells #[.int .i64 a5, .int .u64 a0, .int .i64 a4, .int .i64 a8, .int .i64 a1] 70)) fun ac =>
 thenW (ac.alloc (.cells #[.int .i64 a6, .slice aa a9 a7] 60)) fun ab =>
 ∃ (a3 : Int), ab.cell? ((blk w.heap.size).add 0) = some (.int .i64 a3) ∧
 ∃ (a2 : Int), ab.cell? ((blk ac.heap.size).add 0) = some (.int .i64 a2) ∧
 R (.bool (a3 == a2)) ab

theorem members_State_begin_1.eq (mWho1 : Int) (mPublic2 : Int) (mFrom3 : Int) (mTo4 : Int) (mLimit5 : Int) (wWho6 : Int) (wB7a : Option Addr) (wB7n : Nat) (wB7c : Nat) (R : Value → World → Prop) (w : World) : mfunc Try.prog [] 66 [.agg #[.int .i64 mWho1, .int .u64 mPublic2, .int .i64 mFrom3, .int .i64 mTo4, .int .i64 mLimit5], .agg #[.int .i64 wWho6, .slice wB7a wB7n wB7c]] R w = members_State_begin_1.M mWho1 mPublic2 mFrom3 mTo4 mLimit5 wWho6 wB7a wB7n wB7c R w := by kernel_rfl
theorem members_State_begin_1.ok (a3 : Int) (a0 : Int) (a2 : Int) (a6 : Int) (a1 : Int) (a4 : Int) (a8 : Option Addr) (a7 : Nat) (a5 : Nat) {R : Value → World → Prop} {w : World} (h : members_State_begin_1.M a3 a0 a2 a6 a1 a4 a8 a7 a5 R w) : Calls Try.prog 66 #[.agg #[.int .i64 a3, .int .u64 a0, .int .i64 a2, .int .i64 a6, .int .i64 a1], .agg #[.int .i64 a4, .slice a8 a7 a5]] w fun e w' => ∃ v, e = .returned v ∧ R v w' :=
  mfunc_ok follows (H := []) (args := [.agg #[.int .i64 a3, .int .u64 a0, .int .i64 a2, .int .i64 a6, .int .i64 a1], .agg #[.int .i64 a4, .slice a8 a7 a5]]) (by rw [members_State_begin_1.eq]; exact h)

def members_State_begin_1.N (a0 : Int) (a2 : Int) (a4 : Int) (a7 : Int) (a3 : Int) (a1 : Int) (a9 : Option Addr) (a8 : Nat) (a6 : Nat) (R : Value → World → Prop) (w : World) : Prop :=
 ∀ (a5 : World), Ext no w a5 →
 R (.bool (a0 == a1)) a5

theorem members_State_begin_1.up (a2 : Int) (a0 : Int) (a4 : Int) (a6 : Int) (a1 : Int) (a3 : Int) (a8 : Option Addr) (a7 : Nat) (a5 : Nat) {R : Value → World → Prop} {w : World} (h : members_State_begin_1.N a2 a0 a4 a6 a1 a3 a8 a7 a5 R w) : members_State_begin_1.M a2 a0 a4 a6 a1 a3 a8 a7 a5 R w := by
  unfold members_State_begin_1.M
  unfold members_State_begin_1.N at h
  refine thenW_in fun af e8 => ?_
  have a9 := Blk.of_new e8
  have ah := ((Ext.refl no w)).size
  have aa := (Ext.refl no w).x_alloc e8
  refine thenW_in fun ae e9 => ?_
  have ad := Blk.of_new e9
  have ag := (aa).size
  have ab := Nat.ne_of_lt a9.lt
  have a9 := a9.x_alloc e9
  have ac := aa.x_alloc e9
  refine ⟨a2, a9.celli 0 rfl rfl, ?_⟩
  refine ⟨a3, ad.celli 0 rfl rfl, ?_⟩
  have h := h ae ac
  exact h

theorem members_State_begin_1.go (a3 : Int) (a0 : Int) (a2 : Int) (a6 : Int) (a1 : Int) (a4 : Int) (a8 : Option Addr) (a7 : Nat) (a5 : Nat) {R : Value → World → Prop} {w : World} (h : members_State_begin_1.N a3 a0 a2 a6 a1 a4 a8 a7 a5 R w) : Calls Try.prog 66 #[.agg #[.int .i64 a3, .int .u64 a0, .int .i64 a2, .int .i64 a6, .int .i64 a1], .agg #[.int .i64 a4, .slice a8 a7 a5]] w fun e w' => ∃ v, e = .returned v ∧ R v w' := members_State_begin_1.ok a3 a0 a2 a6 a1 a4 a8 a7 a5 (members_State_begin_1.up a3 a0 a2 a6 a1 a4 a8 a7 a5 h)
theorem members_State_begin_1.run (a3 : Int) (a0 : Int) (a2 : Int) (a6 : Int) (a1 : Int) (a4 : Int) (a8 : Option Addr) (a7 : Nat) (a5 : Nat) {V : Value} {Q : World → Prop} {w : World} (h : members_State_begin_1.N a3 a0 a2 a6 a1 a4 a8 a7 a5 (fun v w' => v = V ∧ Q w') w) : Calls Try.prog 66 #[.agg #[.int .i64 a3, .int .u64 a0, .int .i64 a2, .int .i64 a6, .int .i64 a1], .agg #[.int .i64 a4, .slice a8 a7 a5]] w (Ret V Q) := (members_State_begin_1.go a3 a0 a2 a6 a1 a4 a8 a7 a5 h).mono fun e w' ⟨v, he, hv, hq⟩ => ⟨by rw [he, hv], hq⟩

abbrev members_State_invite.J1 (bl : Int) (ar : Addr) (bd : Addr) (au : Addr) (R : Value → World → Prop) (bi : World) : Prop :=
 thenW (bi.drew) fun ai =>
 ∃ (av : Option Addr) (ax : Nat) (aw : Nat), ai.cell? (au.add 0) = some (.slice av ax aw) ∧
 ∃ (an : Int), ai.cell? (bd.add 1) = some (.int .i64 an) ∧
 ∃ (a0 : Int), ai.cell? (bd.add 2) = some (.int .u64 a0) ∧
 ∃ (a1 : Int), ai.cell? (au.add 1) = some (.int .i64 a1) ∧
 (Calls Try.prog 67 #[.slice av ax aw] ai fun bf aq => ∃ (ag : Option Addr) (ad : Nat) (af : Nat), bf = .returned (.slice ag ad af) ∧
 aq.cell? (au.add 1) = some (.int .i64 a1) ∧
 aq.cell? (bd.add 2) = some (.int .u64 a0) ∧
 aq.cell? (bd.add 1) = some (.int .i64 an) ∧
 thenW (aq.alloc (.cells #[.int .i64 an, .int .u64 a0, .int .i64 (IntKind.i64.wrap (a1 + 1)), .int .i64 (-1), .int .i64 0] 70)) fun bh =>
 Calls Try.prog 68 #[.slice ag ad af, .int .i64 bl, .slice (some (blk aq.heap.size)) 1 1] bh fun bj b6 => ∃ (a4 : Option Addr) (a6 : Nat) (a5 : Nat), bj = .returned (.slice a4 a6 a5) ∧
 canStore b6 ((au.add 0).add 0) ∧
 thenW (b6.setCell ((au.add 0).add 0) (.slice a4 a6 a5)) fun b5 =>
 ∃ (ay : Option Addr) (az : Nat) (b3 : Nat) (ac : Int), cellsAt b5 au [.slice ay az b3, .int .i64 ac] 0 ∧
 canStore b5 (ar.add 0) ∧
 thenW (b5.setCell (ar.add 0) (.slice ay az b3)) fun ba =>
 canStore ba (ar.add 1) ∧
 thenW (ba.setCell (ar.add 1) (.int .i64 ac)) fun b7 =>
 ∃ (al : Option Addr) (aj : Nat) (ap : Nat) (a3 : Int), cellsAt b7 ar [.slice al aj ap, .int .i64 a3] 0 ∧
 R (.tuple #[.agg #[.slice al aj ap, .int .i64 a3], .int .i64 0]) b7) ∧
 (thenW (ai.alloc (.cells #[.int .i64 an, .int .u64 a0, .int .i64 (IntKind.i64.wrap (a1 + 1)), .int .i64 (-1), .int .i64 0] 70)) fun b8 =>
 b8.cell? (au.add 0) = some (.slice av ax aw) ∧
 Calls Try.prog 67 #[.slice av ax aw] b8 fun be bk => ∃ (ab : Option Addr) (ae : Nat) (aa : Nat), be = .returned (.slice ab ae aa) ∧
 Calls Try.prog 68 #[.slice ab ae aa, .int .i64 bl, .slice (some (blk ai.heap.size)) 1 1] bk fun bg bb => ∃ (a7 : Option Addr) (a9 : Nat) (a8 : Nat), bg = .returned (.slice a7 a9 a8) ∧
 canStore bb ((au.add 0).add 0) ∧
 thenW (bb.setCell ((au.add 0).add 0) (.slice a7 a9 a8)) fun b4 =>
 ∃ (b0 : Option Addr) (b2 : Nat) (b1 : Nat) (ah : Int), cellsAt b4 au [.slice b0 b2 b1, .int .i64 ah] 0 ∧
 canStore b4 (ar.add 0) ∧
 thenW (b4.setCell (ar.add 0) (.slice b0 b2 b1)) fun b9 =>
 canStore b9 (ar.add 1) ∧
 thenW (b9.setCell (ar.add 1) (.int .i64 ah)) fun bc =>
 ∃ (ak : Option Addr) (am : Nat) (ao : Nat) (a2 : Int), cellsAt bc ar [.slice ak am ao, .int .i64 a2] 0 ∧
 R (.tuple #[.agg #[.slice ak am ao, .int .i64 a2], .int .i64 0]) bc)

def members_State_invite.M (ar : Option Addr) (ax : Nat) (au : Nat) (ac : Int) (ai : Int) (ap : Int) (a6 : Int) (ad : Int) (aa : Option Addr) (a7 : Nat) (a9 : Nat) (aj : Option Addr) (an : Nat) (ak : Nat) (R : Value → World → Prop) (w : World) : Prop :=
 thenW (w.alloc (.cells #[.slice ar ax au, .int .i64 ac] 43)) fun av =>
 thenW (av.alloc (.cells #[.int .i64 ai, .int .i64 ap, .int .u64 a6, .int .i64 ad, .slice aa a7 a9, .slice aj an ak] 52)) fun a2 =>
 thenW (a2.alloc (.cells #[.slice none 0 0, .int .i64 0] 43)) fun al =>
 ∃ (ah : Option Addr) (af : Nat) (ag : Nat) (a1 : Int), cellsAt al (blk w.heap.size) [.slice ah af ag, .int .i64 a1] 0 ∧
 ∃ (ae : Int), al.cell? ((blk av.heap.size).add 1) = some (.int .i64 ae) ∧
 Calls Try.prog 47 #[.agg #[.slice ah af ag, .int .i64 a1], .int .i64 ae] al fun aw am => ∃ (ab : Int) (a8 : Bool), aw = .returned (.tuple #[.int .i64 ab, .bool a8]) ∧
 bif a8 then (
 canStore am ((blk a2.heap.size).add 0) ∧
 thenW (am.setCell ((blk a2.heap.size).add 0) (.slice none 0 0)) fun ao =>
 canStore ao ((blk a2.heap.size).add 1) ∧
 thenW (ao.setCell ((blk a2.heap.size).add 1) (.int .i64 0)) fun aq =>
 ∃ (a5 : Option Addr) (a4 : Nat) (a3 : Nat) (a0 : Int), cellsAt aq (blk a2.heap.size) [.slice a5 a4 a3, .int .i64 a0] 0 ∧
 R (.tuple #[.agg #[.slice a5 a4 a3, .int .i64 a0], .int .i64 13]) aq) else (
 members_State_invite.J1 ab (blk a2.heap.size) (blk av.heap.size) (blk w.heap.size) R am)

theorem members_State_invite.eq (sL1a : Option Addr) (sL1n : Nat) (sL1c : Nat) (sEpoch2 : Int) (cKind3 : Int) (cWho4 : Int) (cPublic5 : Int) (cLimit6 : Int) (cWraps7a : Option Addr) (cWraps7n : Nat) (cWraps7c : Nat) (cOld8a : Option Addr) (cOld8n : Nat) (cOld8c : Nat) (R : Value → World → Prop) (w : World) : mfunc Try.prog [] 36 [.agg #[.slice sL1a sL1n sL1c, .int .i64 sEpoch2], .agg #[.int .i64 cKind3, .int .i64 cWho4, .int .u64 cPublic5, .int .i64 cLimit6, .slice cWraps7a cWraps7n cWraps7c, .slice cOld8a cOld8n cOld8c]] R w = members_State_invite.M sL1a sL1n sL1c sEpoch2 cKind3 cWho4 cPublic5 cLimit6 cWraps7a cWraps7n cWraps7c cOld8a cOld8n cOld8c R w := by kernel_rfl
theorem members_State_invite.ok (ab : Option Addr) (ac : Nat) (ad : Nat) (a4 : Int) (a6 : Int) (aa : Int) (a0 : Int) (a5 : Int) (a3 : Option Addr) (a2 : Nat) (a1 : Nat) (a7 : Option Addr) (a9 : Nat) (a8 : Nat) {R : Value → World → Prop} {w : World} (h : members_State_invite.M ab ac ad a4 a6 aa a0 a5 a3 a2 a1 a7 a9 a8 R w) : Calls Try.prog 36 #[.agg #[.slice ab ac ad, .int .i64 a4], .agg #[.int .i64 a6, .int .i64 aa, .int .u64 a0, .int .i64 a5, .slice a3 a2 a1, .slice a7 a9 a8]] w fun e w' => ∃ v, e = .returned v ∧ R v w' :=
  mfunc_ok follows (H := []) (args := [.agg #[.slice ab ac ad, .int .i64 a4], .agg #[.int .i64 a6, .int .i64 aa, .int .u64 a0, .int .i64 a5, .slice a3 a2 a1, .slice a7 a9 a8]]) (by rw [members_State_invite.eq]; exact h)

def members_State_invite.N (am : Option Addr) (ap : Nat) (an : Nat) (a3 : Int) (b2 : Int) (ai : Int) (a4 : Int) (b1 : Int) (ay : Option Addr) (av : Nat) (ax : Nat) (b3 : Option Addr) (b9 : Nat) (b5 : Nat) (R : Value → World → Prop) (w : World) : Prop :=
 ∀ (ak : World) (al : Nat) (b4 : Nat) (aj : Nat), Ext no w ak → Priv w ak [al, b4, aj] →
 Calls Try.prog 47 #[.agg #[.slice am ap an, .int .i64 a3], .int .i64 ai] ak fun b6 ah => ∃ (ac : Int) (ab : Bool), b6 = .returned (.tuple #[.int .i64 ac, .bool ab]) ∧
 Keep [al, b4, aj] ak ah ∧
 (ab = true →
 ∀ (aw : World), Ext (fun b => b = aj) ah aw →
 R (.tuple #[.agg #[.slice none 0 0, .int .i64 0], .int .i64 13]) aw) ∧
 (ab = false →
 (-9223372036854775808 : Int) ≤ (a3 + 1) ∧ (a3 + 1) < 9223372036854775808 ∧
 (∀ (aq : World), Ext no ah aq →
 Calls Try.prog 67 #[.slice am ap an] aq fun b7 au => ∃ (a9 : Option Addr) (a6 : Nat) (a8 : Nat), b7 = .returned (.slice a9 a6 a8) ∧
 Keep [al, b4, aj] aq au ∧
 ∀ (ag : World) (az : Nat), Ext no au ag → Blk ag az 70 [.int .i64 ai, .int .u64 a4, .int .i64 (a3 + 1), .int .i64 (-1), .int .i64 0] → au.heap.size ≤ az → az < ag.heap.size →
 Calls Try.prog 68 #[.slice a9 a6 a8, .int .i64 ac, .slice (some (blk az)) 1 1] ag fun ao ad => ∃ (a0 : Option Addr) (a2 : Nat) (a1 : Nat), ao = .returned (.slice a0 a2 a1) ∧
 Keep [al, aj] ag ad ∧
 ∀ (ae : World), Ext (fun b => b = aj ∨ b = al) ad ae →
 R (.tuple #[.agg #[.slice a0 a2 a1, .int .i64 a3], .int .i64 0]) ae) ∧
 (∀ (af : World) (b0 : Nat), Ext no ah af → Blk af b0 70 [.int .i64 ai, .int .u64 a4, .int .i64 (a3 + 1), .int .i64 (-1), .int .i64 0] → ah.heap.size ≤ b0 → b0 < af.heap.size →
 Calls Try.prog 67 #[.slice am ap an] af fun b8 ar => ∃ (aa : Option Addr) (a5 : Nat) (a7 : Nat), b8 = .returned (.slice aa a5 a7) ∧
 Keep [al, aj] af ar ∧
 Calls Try.prog 68 #[.slice aa a5 a7, .int .i64 ac, .slice (some (blk b0)) 1 1] ar fun ao ad => ∃ (a0 : Option Addr) (a2 : Nat) (a1 : Nat), ao = .returned (.slice a0 a2 a1) ∧
 Keep [al, aj] ar ad ∧
 ∀ (ae : World), Ext (fun b => b = aj ∨ b = al) ad ae →
 R (.tuple #[.agg #[.slice a0 a2 a1, .int .i64 a3], .int .i64 0]) ae))

theorem members_State_invite.up (aq : Option Addr) (ar : Nat) (au : Nat) (a4 : Int) (am : Int) (ae : Int) (a6 : Int) (ad : Int) (ab : Option Addr) (a9 : Nat) (aa : Nat) (al : Option Addr) (aj : Nat) (af : Nat) {R : Value → World → Prop} {w : World} (h : members_State_invite.N aq ar au a4 am ae a6 ad ab a9 aa al aj af R w) : members_State_invite.M aq ar au a4 am ae a6 ad ab a9 aa al aj af R w := by
  unfold members_State_invite.M
  unfold members_State_invite.N at h
  refine thenW_in fun bx e9 => ?_
  have a5 := Blk.of_new e9
  have c5 := ((Ext.refl no w)).size
  have bs := (Ext.refl no w).x_alloc e9
  refine thenW_in fun a7 bm => ?_
  have ac := Blk.of_new bm
  have c2 := (bs).size
  have bt := Nat.ne_of_lt a5.lt
  have a5 := a5.x_alloc bm
  have ba := bs.x_alloc bm
  refine thenW_in fun bi be => ?_
  have a3 := Blk.of_new be
  have c6 := (ba).size
  have av := Nat.ne_of_lt a5.lt
  have a5 := a5.x_alloc be
  have bv := Nat.ne_of_lt ac.lt
  have ac := ac.x_alloc be
  have bh := ba.x_alloc be
  refine ⟨aq, ar, au, a4, ⟨a5.celli 0 rfl rfl, a5.celli 1 rfl rfl, trivial⟩, ?_⟩
  refine ⟨ae, ac.celli 1 rfl rfl, ?_⟩
  have h := h bi (w.heap.size) (bx.heap.size) (a7.heap.size) bh (Priv.cons c5 a5.lt (Priv.cons c2 ac.lt (Priv.cons c6 a3.lt Priv.nil)))
  refine h.mono fun c1 ap h => ?_
  obtain ⟨ay, b5, he, hk, h⟩ := h
  refine ⟨ay, b5, he, ?_⟩
  have a5 := hk.blk a5 (by simp)
  have ac := hk.blk ac (by simp)
  have a3 := hk.blk a3 (by simp)
  refine bif_of (fun bj => ?_) (fun bj => ?_)
  ·have h := h.1 bj
   have bg : Ext (fun b => b = a7.heap.size) ap ap := ((Ext.refl no ap)).none
   refine ⟨a3.cani 0 rfl rfl, thenW_in fun c8 bw => ?_⟩
   have bk := bg.x_set (q := a7.heap.size) (i := 0) rfl (.inl rfl) bw
   have a3 := a3.seti 0 rfl bw
   refine ⟨a3.cani 1 rfl rfl, thenW_in fun bo bu => ?_⟩
   have bl := bk.x_set (q := a7.heap.size) (i := 1) rfl (.inl rfl) bu
   have a3 := a3.seti 1 rfl bu
   refine ⟨none, 0, 0, 0, ⟨a3.celli 0 rfl rfl, a3.celli 1 rfl rfl, trivial⟩, ?_⟩
   have h := h bo bl
   exact h
  have h := h.2 bj
  unfold members_State_invite.J1
  refine thenW_in fun bd bf => ?_
  have az := (Ext.refl no ap).x_drew bf
  have a5 := a5.x_drew bf
  have ac := ac.x_drew bf
  have a3 := a3.x_drew bf
  refine ⟨aq, ar, au, a5.celli 0 rfl rfl, ?_⟩
  refine ⟨ae, ac.celli 1 rfl rfl, ?_⟩
  refine ⟨a6, ac.celli 2 rfl rfl, ?_⟩
  refine ⟨a4, a5.celli 1 rfl rfl, ?_⟩
  obtain ⟨c0, c3, h⟩ := h
  try rw [w64 c0 c3]
  obtain ⟨h0', h1'⟩ := h
  refine ⟨?_, ?_⟩
  ·have h := h0'
   have h := h bd az
   refine h.mono fun c4 b7 h => ?_
   obtain ⟨ag, an, ai, he, hk, h⟩ := h
   refine ⟨ag, an, ai, he, ?_⟩
   have a5 := hk.blk a5 (by simp)
   have ac := hk.blk ac (by simp)
   have a3 := hk.blk a3 (by simp)
   refine ⟨a5.celli 1 rfl rfl, ac.celli 2 rfl rfl, ac.celli 1 rfl rfl, ?_⟩
   refine thenW_in fun bn b9 => ?_
   have a5 := a5.x_alloc b9
   have a3 := a3.x_alloc b9
   have h := h bn b7.heap.size ((Ext.refl no b7).x_alloc b9) (Blk.of_new b9) ((Ext.refl no b7)).size (size_lt_alloc b9)
   refine h.mono fun bq a8 h => ?_
   obtain ⟨a1, a0, a2, he, hk, h⟩ := h
   refine ⟨a1, a0, a2, he, ?_⟩
   have a5 := hk.blk a5 (by simp)
   have a3 := hk.blk a3 (by simp)
   have b3 : Ext (fun b => b = w.heap.size) a8 a8 := ((Ext.refl no a8)).none
   refine ⟨a5.cani 0 rfl rfl, thenW_in fun ax b6 => ?_⟩
   have b0 := b3.x_set (q := w.heap.size) (i := 0) rfl (.inl rfl) b6
   have a5 := a5.seti 0 rfl b6
   have a3 := a3.oth (q := w.heap.size) (i := 0) rfl (Ne.symm av) b6
   refine ⟨a1, a0, a2, a4, ⟨a5.celli 0 rfl rfl, a5.celli 1 rfl rfl, trivial⟩, ?_⟩
   have b4 : Ext (fun b => b = a7.heap.size ∨ b = w.heap.size) a8 ax := (b0).mono fun _ h _ => .inr h
   refine ⟨a3.cani 0 rfl rfl, thenW_in fun bp bb => ?_⟩
   have b1 := b4.x_set (q := a7.heap.size) (i := 0) rfl (.inl (.inl rfl)) bb
   have a3 := a3.seti 0 rfl bb
   refine ⟨a3.cani 1 rfl rfl, thenW_in fun b2 bc => ?_⟩
   have aw := b1.x_set (q := a7.heap.size) (i := 1) rfl (.inl (.inl rfl)) bc
   have a3 := a3.seti 1 rfl bc
   refine ⟨a1, a0, a2, a4, ⟨a3.celli 0 rfl rfl, a3.celli 1 rfl rfl, trivial⟩, ?_⟩
   have h := h b2 aw
   exact h
  have h := h1'
  refine thenW_in fun br b8 => ?_
  have a5 := a5.x_alloc b8
  have a3 := a3.x_alloc b8
  have h := h br bd.heap.size (az.x_alloc b8) (Blk.of_new b8) (az).size (size_lt_alloc b8)
  refine ⟨a5.celli 0 rfl rfl, ?_⟩
  refine h.mono fun bz c7 h => ?_
  obtain ⟨ak, ah, ao, he, hk, h⟩ := h
  refine ⟨ak, ah, ao, he, ?_⟩
  have a5 := hk.blk a5 (by simp)
  have a3 := hk.blk a3 (by simp)
  refine h.mono fun bq a8 h => ?_
  obtain ⟨a1, a0, a2, he, hk, h⟩ := h
  refine ⟨a1, a0, a2, he, ?_⟩
  have a5 := hk.blk a5 (by simp)
  have a3 := hk.blk a3 (by simp)
  have b3 : Ext (fun b => b = w.heap.size) a8 a8 := ((Ext.refl no a8)).none
  refine ⟨a5.cani 0 rfl rfl, thenW_in fun ax b6 => ?_⟩
  have b0 := b3.x_set (q := w.heap.size) (i := 0) rfl (.inl rfl) b6
  have a5 := a5.seti 0 rfl b6
  have a3 := a3.oth (q := w.heap.size) (i := 0) rfl (Ne.symm av) b6
  refine ⟨a1, a0, a2, a4, ⟨a5.celli 0 rfl rfl, a5.celli 1 rfl rfl, trivial⟩, ?_⟩
  have b4 : Ext (fun b => b = a7.heap.size ∨ b = w.heap.size) a8 ax := (b0).mono fun _ h _ => .inr h
  refine ⟨a3.cani 0 rfl rfl, thenW_in fun bp bb => ?_⟩
  have b1 := b4.x_set (q := a7.heap.size) (i := 0) rfl (.inl (.inl rfl)) bb
  have a3 := a3.seti 0 rfl bb
  refine ⟨a3.cani 1 rfl rfl, thenW_in fun b2 bc => ?_⟩
  have aw := b1.x_set (q := a7.heap.size) (i := 1) rfl (.inl (.inl rfl)) bc
  have a3 := a3.seti 1 rfl bc
  refine ⟨a1, a0, a2, a4, ⟨a3.celli 0 rfl rfl, a3.celli 1 rfl rfl, trivial⟩, ?_⟩
  have h := h b2 aw
  exact h

theorem members_State_invite.go (ab : Option Addr) (ac : Nat) (ad : Nat) (a4 : Int) (a6 : Int) (aa : Int) (a0 : Int) (a5 : Int) (a3 : Option Addr) (a2 : Nat) (a1 : Nat) (a7 : Option Addr) (a9 : Nat) (a8 : Nat) {R : Value → World → Prop} {w : World} (h : members_State_invite.N ab ac ad a4 a6 aa a0 a5 a3 a2 a1 a7 a9 a8 R w) : Calls Try.prog 36 #[.agg #[.slice ab ac ad, .int .i64 a4], .agg #[.int .i64 a6, .int .i64 aa, .int .u64 a0, .int .i64 a5, .slice a3 a2 a1, .slice a7 a9 a8]] w fun e w' => ∃ v, e = .returned v ∧ R v w' := members_State_invite.ok ab ac ad a4 a6 aa a0 a5 a3 a2 a1 a7 a9 a8 (members_State_invite.up ab ac ad a4 a6 aa a0 a5 a3 a2 a1 a7 a9 a8 h)
abbrev members_State_revoke.J1 (ap : Addr) (a2 : Addr) (ao : Addr) (R : Value → World → Prop) (a5 : World) : Prop :=
 ∃ (a8 : Int), a5.cell? (ao.add 1) = some (.int .i64 a8) ∧
 bif decide (a8 < 0) then (
 canStore a5 ((ap.add 3).add 0) ∧
 thenW (a5.setCell ((ap.add 3).add 0) (.int .i64 (-2))) fun ai =>
 ∃ (ag : Option Addr) (aj : Nat) (ah : Nat) (a4 : Int), cellsAt ai ao [.slice ag aj ah, .int .i64 a4] 0 ∧
 canStore ai (a2.add 0) ∧
 thenW (ai.setCell (a2.add 0) (.slice ag aj ah)) fun an =>
 canStore an (a2.add 1) ∧
 thenW (an.setCell (a2.add 1) (.int .i64 a4)) fun ak =>
 ∃ (a6 : Option Addr) (ab : Nat) (ac : Nat) (a0 : Int), cellsAt ak a2 [.slice a6 ab ac, .int .i64 a0] 0 ∧
 R (.tuple #[.agg #[.slice a6 ab ac, .int .i64 a0], .int .i64 0]) ak) else (
 ∃ (ae : Option Addr) (af : Nat) (ad : Nat) (a3 : Int), cellsAt a5 ao [.slice ae af ad, .int .i64 a3] 0 ∧
 canStore a5 (a2.add 0) ∧
 thenW (a5.setCell (a2.add 0) (.slice ae af ad)) fun am =>
 canStore am (a2.add 1) ∧
 thenW (am.setCell (a2.add 1) (.int .i64 a3)) fun al =>
 ∃ (a7 : Option Addr) (aa : Nat) (a9 : Nat) (a1 : Int), cellsAt al a2 [.slice a7 aa a9, .int .i64 a1] 0 ∧
 R (.tuple #[.agg #[.slice a7 aa a9, .int .i64 a1], .int .i64 0]) al)

abbrev members_State_revoke.J2 (ag : Int) (am : Addr) (al : Addr) (ah : Addr) (R : Value → World → Prop) (ab : World) : Prop :=
 ∃ (a9 : Option Addr) (ad : Nat) (af : Nat), ab.cell? (ah.add 0) = some (.slice a9 ad af) ∧
 Calls Try.prog 67 #[.slice a9 ad af] ab fun ak a8 => ∃ (a1 : Option Addr) (a2 : Nat) (a3 : Nat), ak = .returned (.slice a1 a2 a3) ∧
 canStore a8 ((ah.add 0).add 0) ∧
 thenW (a8.setCell ((ah.add 0).add 0) (.slice a1 a2 a3)) fun ac =>
 ∃ (aa : Option Addr) (ae : Nat) (aj : Nat), ac.cell? (ah.add 0) = some (.slice aa ae aj) ∧
 aa.elim False fun a7 =>
 0 ≤ (ag : Int) ∧ (ag : Int) < (ae : Int) ∧
 thenW (ac.drew) fun a5 =>
 ∃ (a4 : Int), a5.cell? (ah.add 1) = some (.int .i64 a4) ∧
 ∃ (a0 : Int), a5.cell? (al.add 3) = some (.int .i64 a0) ∧
 canStore a5 (((a7.add (Int.toNat ag * 5)).add 3).add 0) ∧
 thenW (a5.setCell (((a7.add (Int.toNat ag * 5)).add 3).add 0) (.int .i64 a4)) fun a6 =>
 a6.cell? (al.add 3) = some (.int .i64 a0) ∧
 canStore a6 (((a7.add (Int.toNat ag * 5)).add 4).add 0) ∧
 thenW (a6.setCell (((a7.add (Int.toNat ag * 5)).add 4).add 0) (.int .i64 a0)) fun ai =>
 members_State_revoke.J1 (a7.add (Int.toNat ag * 5)) am ah R ai

abbrev members_State_revoke.J3 (ab : Int) (a5 : Addr) (af : Addr) (ad : Addr) (R : Value → World → Prop) (a4 : World) : Prop :=
 ∃ (a6 : Option Addr) (a8 : Nat) (ac : Nat), a4.cell? (ad.add 0) = some (.slice a6 a8 ac) ∧
 a6.elim False fun ae =>
 0 ≤ (ab : Int) ∧ (ab : Int) < (a8 : Int) ∧
 ∃ (a9 : Int), a4.cell? ((ae.add (Int.toNat ab * 5)).add 3) = some (.int .i64 a9) ∧
 bif a9 != (-1) then (
 canStore a4 (a5.add 0) ∧
 thenW (a4.setCell (a5.add 0) (.slice none 0 0)) fun a7 =>
 canStore a7 (a5.add 1) ∧
 thenW (a7.setCell (a5.add 1) (.int .i64 0)) fun aa =>
 ∃ (a2 : Option Addr) (a1 : Nat) (a3 : Nat) (a0 : Int), cellsAt aa a5 [.slice a2 a1 a3, .int .i64 a0] 0 ∧
 R (.tuple #[.agg #[.slice a2 a1 a3, .int .i64 a0], .int .i64 10]) aa) else (
 members_State_revoke.J2 ab a5 af ad R a4)

def members_State_revoke.M (ar : Option Addr) (ax : Nat) (au : Nat) (ac : Int) (ai : Int) (ap : Int) (a6 : Int) (ad : Int) (aa : Option Addr) (a7 : Nat) (a9 : Nat) (aj : Option Addr) (an : Nat) (ak : Nat) (R : Value → World → Prop) (w : World) : Prop :=
 thenW (w.alloc (.cells #[.slice ar ax au, .int .i64 ac] 43)) fun av =>
 thenW (av.alloc (.cells #[.int .i64 ai, .int .i64 ap, .int .u64 a6, .int .i64 ad, .slice aa a7 a9, .slice aj an ak] 52)) fun a2 =>
 thenW (a2.alloc (.cells #[.slice none 0 0, .int .i64 0] 43)) fun al =>
 ∃ (ah : Option Addr) (af : Nat) (ag : Nat) (a1 : Int), cellsAt al (blk w.heap.size) [.slice ah af ag, .int .i64 a1] 0 ∧
 ∃ (ae : Int), al.cell? ((blk av.heap.size).add 1) = some (.int .i64 ae) ∧
 Calls Try.prog 47 #[.agg #[.slice ah af ag, .int .i64 a1], .int .i64 ae] al fun aw am => ∃ (ab : Int) (a8 : Bool), aw = .returned (.tuple #[.int .i64 ab, .bool a8]) ∧
 bif !a8 then (
 canStore am ((blk a2.heap.size).add 0) ∧
 thenW (am.setCell ((blk a2.heap.size).add 0) (.slice none 0 0)) fun ao =>
 canStore ao ((blk a2.heap.size).add 1) ∧
 thenW (ao.setCell ((blk a2.heap.size).add 1) (.int .i64 0)) fun aq =>
 ∃ (a5 : Option Addr) (a4 : Nat) (a3 : Nat) (a0 : Int), cellsAt aq (blk a2.heap.size) [.slice a5 a4 a3, .int .i64 a0] 0 ∧
 R (.tuple #[.agg #[.slice a5 a4 a3, .int .i64 a0], .int .i64 20]) aq) else (
 members_State_revoke.J3 ab (blk a2.heap.size) (blk av.heap.size) (blk w.heap.size) R am)

theorem members_State_revoke.eq (sL1a : Option Addr) (sL1n : Nat) (sL1c : Nat) (sEpoch2 : Int) (cKind3 : Int) (cWho4 : Int) (cPublic5 : Int) (cLimit6 : Int) (cWraps7a : Option Addr) (cWraps7n : Nat) (cWraps7c : Nat) (cOld8a : Option Addr) (cOld8n : Nat) (cOld8c : Nat) (R : Value → World → Prop) (w : World) : mfunc Try.prog [] 37 [.agg #[.slice sL1a sL1n sL1c, .int .i64 sEpoch2], .agg #[.int .i64 cKind3, .int .i64 cWho4, .int .u64 cPublic5, .int .i64 cLimit6, .slice cWraps7a cWraps7n cWraps7c, .slice cOld8a cOld8n cOld8c]] R w = members_State_revoke.M sL1a sL1n sL1c sEpoch2 cKind3 cWho4 cPublic5 cLimit6 cWraps7a cWraps7n cWraps7c cOld8a cOld8n cOld8c R w := by kernel_rfl
theorem members_State_revoke.ok (ab : Option Addr) (ac : Nat) (ad : Nat) (a4 : Int) (a6 : Int) (aa : Int) (a0 : Int) (a5 : Int) (a3 : Option Addr) (a2 : Nat) (a1 : Nat) (a7 : Option Addr) (a9 : Nat) (a8 : Nat) {R : Value → World → Prop} {w : World} (h : members_State_revoke.M ab ac ad a4 a6 aa a0 a5 a3 a2 a1 a7 a9 a8 R w) : Calls Try.prog 37 #[.agg #[.slice ab ac ad, .int .i64 a4], .agg #[.int .i64 a6, .int .i64 aa, .int .u64 a0, .int .i64 a5, .slice a3 a2 a1, .slice a7 a9 a8]] w fun e w' => ∃ v, e = .returned v ∧ R v w' :=
  mfunc_ok follows (H := []) (args := [.agg #[.slice ab ac ad, .int .i64 a4], .agg #[.int .i64 a6, .int .i64 aa, .int .u64 a0, .int .i64 a5, .slice a3 a2 a1, .slice a7 a9 a8]]) (by rw [members_State_revoke.eq]; exact h)

def members_State_revoke.N (ab : Option Addr) (af : Nat) (al : Nat) (a1 : Int) (aw : Int) (ar : Int) (ak : Int) (a9 : Int) (au : Option Addr) (am : Nat) (aq : Nat) (ax : Option Addr) (b2 : Nat) (ay : Nat) (R : Value → World → Prop) (w : World) : Prop :=
 ∀ (aa : World) (ac : Nat) (av : Nat) (a7 : Nat), Ext no w aa → Priv w aa [ac, av, a7] →
 Calls Try.prog 47 #[.agg #[.slice ab af al, .int .i64 a1], .int .i64 ar] aa fun az a6 => ∃ (a0 : Int) (a5 : Bool), az = .returned (.tuple #[.int .i64 a0, .bool a5]) ∧
 Keep [ac, av, a7] aa a6 ∧
 (a5 = false →
 ∀ (an : World), Ext (fun b => b = a7) a6 an →
 R (.tuple #[.agg #[.slice none 0 0, .int .i64 0], .int .i64 20]) an) ∧
 (a5 = true →
 ∃ b3 : Addr, ab = some b3 ∧
 0 ≤ (a0 : Int) ∧ (a0 : Int) < (af : Int) ∧
 ∃ (ag : Int), a6.cell? ((b3.add (Int.toNat a0 * 5)).add 3) = some (.int .i64 ag) ∧
 (ag ≠ (-1) →
 ∀ (ap : World), Ext (fun b => b = a7) a6 ap →
 R (.tuple #[.agg #[.slice none 0 0, .int .i64 0], .int .i64 10]) ap) ∧
 (ag = (-1) →
 Calls Try.prog 67 #[.slice ab af al] a6 fun b0 ai => ∃ (a3 : Option Addr) (a2 : Nat) (a4 : Nat), b0 = .returned (.slice a3 a2 a4) ∧
 Keep [ac, av, a7] a6 ai ∧
 ∃ a8 : Addr, a3 = some a8 ∧
 0 ≤ (a0 : Int) ∧ (a0 : Int) < (a2 : Int) ∧
 ∀ (ad : World), Ext (fun b => b = ac) ai ad →
 canStore ad (((a8.add (Int.toNat a0 * 5)).add 3).add 0) ∧
 (∀ p ∈ [ac, av, a7], p ≠ Addr.block ((a8.add (Int.toNat a0 * 5)).add 3)) ∧
 thenW (ad.setCell (((a8.add (Int.toNat a0 * 5)).add 3).add 0) (.int .i64 a1)) fun ao =>
 canStore ao (((a8.add (Int.toNat a0 * 5)).add 4).add 0) ∧
 (∀ p ∈ [ac, a7], p ≠ Addr.block ((a8.add (Int.toNat a0 * 5)).add 4)) ∧
 thenW (ao.setCell (((a8.add (Int.toNat a0 * 5)).add 4).add 0) (.int .i64 a9)) fun ae =>
 (a1 < 0 →
 canStore ae (((a8.add (Int.toNat a0 * 5)).add 3).add 0) ∧
 (∀ p ∈ [ac, a7], p ≠ Addr.block ((a8.add (Int.toNat a0 * 5)).add 3)) ∧
 thenW (ae.setCell (((a8.add (Int.toNat a0 * 5)).add 3).add 0) (.int .i64 (-2))) fun b1 =>
 ∀ (aj : World), Ext (fun b => b = a7) b1 aj →
 R (.tuple #[.agg #[.slice a3 a2 a4, .int .i64 a1], .int .i64 0]) aj) ∧
 ((0 : Int) ≤ a1 →
 ∀ (ah : World), Ext (fun b => b = a7) ae ah →
 R (.tuple #[.agg #[.slice a3 a2 a4, .int .i64 a1], .int .i64 0]) ah)))

theorem members_State_revoke.up (af : Option Addr) (ag : Nat) (ak : Nat) (a0 : Int) (al : Int) (ah : Int) (aa : Int) (a7 : Int) (ac : Option Addr) (a8 : Nat) (ab : Nat) (aj : Option Addr) (ai : Nat) (ae : Nat) {R : Value → World → Prop} {w : World} (h : members_State_revoke.N af ag ak a0 al ah aa a7 ac a8 ab aj ai ae R w) : members_State_revoke.M af ag ak a0 al ah aa a7 ac a8 ab aj ai ae R w := by
  unfold members_State_revoke.M
  unfold members_State_revoke.N at h
  refine thenW_in fun ca e9 => ?_
  have a5 := Blk.of_new e9
  have cg := ((Ext.refl no w)).size
  have bz := (Ext.refl no w).x_alloc e9
  refine thenW_in fun a6 bo => ?_
  have a9 := Blk.of_new bo
  have ce := (bz).size
  have au := Nat.ne_of_lt a5.lt
  have a5 := a5.x_alloc bo
  have av := bz.x_alloc bo
  refine thenW_in fun bc ax => ?_
  have a1 := Blk.of_new ax
  have ch := (av).size
  have ar := Nat.ne_of_lt a5.lt
  have a5 := a5.x_alloc ax
  have c4 := Nat.ne_of_lt a9.lt
  have a9 := a9.x_alloc ax
  have ba := av.x_alloc ax
  refine ⟨af, ag, ak, a0, ⟨a5.celli 0 rfl rfl, a5.celli 1 rfl rfl, trivial⟩, ?_⟩
  refine ⟨ah, a9.celli 1 rfl rfl, ?_⟩
  have h := h bc (w.heap.size) (ca.heap.size) (a6.heap.size) ba (Priv.cons cg a5.lt (Priv.cons ce a9.lt (Priv.cons ch a1.lt Priv.nil)))
  refine h.mono fun cd ad h => ?_
  obtain ⟨am, aq, he, hk, h⟩ := h
  refine ⟨am, aq, he, ?_⟩
  have a5 := hk.blk a5 (by simp)
  have a9 := hk.blk a9 (by simp)
  have a1 := hk.blk a1 (by simp)
  refine bif_of (fun bf => ?_) (fun bf => ?_)
  ·have h := h.1 (not_t bf)
   have b2 : Ext (fun b => b = a6.heap.size) ad ad := ((Ext.refl no ad)).none
   refine ⟨a1.cani 0 rfl rfl, thenW_in fun ck c8 => ?_⟩
   have bh := b2.x_set (q := a6.heap.size) (i := 0) rfl (.inl rfl) c8
   have a1 := a1.seti 0 rfl c8
   refine ⟨a1.cani 1 rfl rfl, thenW_in fun bq c2 => ?_⟩
   have bn := bh.x_set (q := a6.heap.size) (i := 1) rfl (.inl rfl) c2
   have a1 := a1.seti 1 rfl c2
   refine ⟨none, 0, 0, 0, ⟨a1.celli 0 rfl rfl, a1.celli 1 rfl rfl, trivial⟩, ?_⟩
   have h := h bq bn
   exact h
  have h := h.2 (not_f bf)
  unfold members_State_revoke.J3
  refine ⟨af, ag, ak, a5.celli 0 rfl rfl, ?_⟩
  obtain ⟨cl, bb, h⟩ := h
  refine elim_some bb ?_
  obtain ⟨b1, b8, h⟩ := h
  refine ⟨b1, b8, ?_⟩
  obtain ⟨bx, b9, h⟩ := h
  refine ⟨bx, b9, ?_⟩
  refine bif_of (fun bs => ?_) (fun bs => ?_)
  ·have h := h.1 (bne_t bs)
   have bj : Ext (fun b => b = a6.heap.size) ad ad := ((Ext.refl no ad)).none
   refine ⟨a1.cani 0 rfl rfl, thenW_in fun cf c3 => ?_⟩
   have bg := bj.x_set (q := a6.heap.size) (i := 0) rfl (.inl rfl) c3
   have a1 := a1.seti 0 rfl c3
   refine ⟨a1.cani 1 rfl rfl, thenW_in fun bw c0 => ?_⟩
   have be := bg.x_set (q := a6.heap.size) (i := 1) rfl (.inl rfl) c0
   have a1 := a1.seti 1 rfl c0
   refine ⟨none, 0, 0, 0, ⟨a1.celli 0 rfl rfl, a1.celli 1 rfl rfl, trivial⟩, ?_⟩
   have h := h bw be
   exact h
  have h := h.2 (bne_f bs)
  unfold members_State_revoke.J2
  refine ⟨af, ag, ak, a5.celli 0 rfl rfl, ?_⟩
  refine h.mono fun ci an h => ?_
  obtain ⟨a2, a4, a3, he, hk, h⟩ := h
  refine ⟨a2, a4, a3, he, ?_⟩
  have a5 := hk.blk a5 (by simp)
  have a9 := hk.blk a9 (by simp)
  have a1 := hk.blk a1 (by simp)
  have bu : Ext (fun b => b = w.heap.size) an an := ((Ext.refl no an)).none
  refine ⟨a5.cani 0 rfl rfl, thenW_in fun cc az => ?_⟩
  have bi := bu.x_set (q := w.heap.size) (i := 0) rfl (.inl rfl) az
  have a5 := a5.seti 0 rfl az
  have a9 := a9.oth (q := w.heap.size) (i := 0) rfl (Ne.symm au) az
  have a1 := a1.oth (q := w.heap.size) (i := 0) rfl (Ne.symm ar) az
  refine ⟨a2, a4, a3, a5.celli 0 rfl rfl, ?_⟩
  obtain ⟨cm, bl, h⟩ := h
  refine elim_some bl ?_
  obtain ⟨b1, b8, h⟩ := h
  refine ⟨b1, b8, ?_⟩
  refine thenW_in fun bt ay => ?_
  have b3 := bi.x_drew ay
  have a5 := a5.x_drew ay
  have a9 := a9.x_drew ay
  have a1 := a1.x_drew ay
  refine ⟨a0, a5.celli 1 rfl rfl, ?_⟩
  refine ⟨a7, a9.celli 3 rfl rfl, ?_⟩
  have h := h bt b3
  obtain ⟨hcs, hof, h⟩ := h
  refine ⟨hcs, thenW_in fun cj aw => ?_⟩
  replace h := thenW_out h aw
  have a5 := a5.off (by rw [block_add]; exact hof _ (by simp)) aw
  have a9 := a9.off (by rw [block_add]; exact hof _ (by simp)) aw
  have a1 := a1.off (by rw [block_add]; exact hof _ (by simp)) aw
  refine ⟨a9.celli 3 rfl rfl, ?_⟩
  obtain ⟨hcs, hof, h⟩ := h
  refine ⟨hcs, thenW_in fun ap b4 => ?_⟩
  replace h := thenW_out h b4
  have a5 := a5.off (by rw [block_add]; exact hof _ (by simp)) b4
  have a1 := a1.off (by rw [block_add]; exact hof _ (by simp)) b4
  unfold members_State_revoke.J1
  refine ⟨a0, a5.celli 1 rfl rfl, ?_⟩
  refine bif_fo (fun bv => ?_) (fun bv => ?_)
  ·have h := h.2 (Int.not_lt.1 (of_decide_eq_false bv))
   refine ⟨a2, a4, a3, a0, ⟨a5.celli 0 rfl rfl, a5.celli 1 rfl rfl, trivial⟩, ?_⟩
   have b5 : Ext (fun b => b = a6.heap.size) ap ap := ((Ext.refl no ap)).none
   refine ⟨a1.cani 0 rfl rfl, thenW_in fun c9 c7 => ?_⟩
   have bk := b5.x_set (q := a6.heap.size) (i := 0) rfl (.inl rfl) c7
   have a1 := a1.seti 0 rfl c7
   refine ⟨a1.cani 1 rfl rfl, thenW_in fun br c6 => ?_⟩
   have bm := bk.x_set (q := a6.heap.size) (i := 1) rfl (.inl rfl) c6
   have a1 := a1.seti 1 rfl c6
   refine ⟨a2, a4, a3, a0, ⟨a1.celli 0 rfl rfl, a1.celli 1 rfl rfl, trivial⟩, ?_⟩
   have h := h br bm
   exact h
  have h := h.1 (of_decide_eq_true bv)
  obtain ⟨hcs, hof, h⟩ := h
  refine ⟨hcs, thenW_in fun ao b6 => ?_⟩
  replace h := thenW_out h b6
  have a5 := a5.off (by rw [block_add]; exact hof _ (by simp)) b6
  have a1 := a1.off (by rw [block_add]; exact hof _ (by simp)) b6
  refine ⟨a2, a4, a3, a0, ⟨a5.celli 0 rfl rfl, a5.celli 1 rfl rfl, trivial⟩, ?_⟩
  have b7 : Ext (fun b => b = a6.heap.size) ao ao := ((Ext.refl no ao)).none
  refine ⟨a1.cani 0 rfl rfl, thenW_in fun cb c5 => ?_⟩
  have bp := b7.x_set (q := a6.heap.size) (i := 0) rfl (.inl rfl) c5
  have a1 := a1.seti 0 rfl c5
  refine ⟨a1.cani 1 rfl rfl, thenW_in fun b0 c1 => ?_⟩
  have bd := bp.x_set (q := a6.heap.size) (i := 1) rfl (.inl rfl) c1
  have a1 := a1.seti 1 rfl c1
  refine ⟨a2, a4, a3, a0, ⟨a1.celli 0 rfl rfl, a1.celli 1 rfl rfl, trivial⟩, ?_⟩
  have h := h b0 bd
  exact h

theorem members_State_revoke.go (ab : Option Addr) (ac : Nat) (ad : Nat) (a4 : Int) (a6 : Int) (aa : Int) (a0 : Int) (a5 : Int) (a3 : Option Addr) (a2 : Nat) (a1 : Nat) (a7 : Option Addr) (a9 : Nat) (a8 : Nat) {R : Value → World → Prop} {w : World} (h : members_State_revoke.N ab ac ad a4 a6 aa a0 a5 a3 a2 a1 a7 a9 a8 R w) : Calls Try.prog 37 #[.agg #[.slice ab ac ad, .int .i64 a4], .agg #[.int .i64 a6, .int .i64 aa, .int .u64 a0, .int .i64 a5, .slice a3 a2 a1, .slice a7 a9 a8]] w fun e w' => ∃ v, e = .returned v ∧ R v w' := members_State_revoke.ok ab ac ad a4 a6 aa a0 a5 a3 a2 a1 a7 a9 a8 (members_State_revoke.up ab ac ad a4 a6 aa a0 a5 a3 a2 a1 a7 a9 a8 h)
abbrev members_State_begin.J1 (an : Addr) (al : Addr) (R : Value → World → Prop) (ah : World) : Prop :=
 ∃ (af : Option Addr) (aj : Nat) (ai : Nat), ah.cell? (al.add 0) = some (.slice af aj ai) ∧
 Calls Try.prog 67 #[.slice af aj ai] ah fun am ak => ∃ (a3 : Option Addr) (a2 : Nat) (a1 : Nat), am = .returned (.slice a3 a2 a1) ∧
 canStore ak ((al.add 0).add 0) ∧
 thenW (ak.setCell ((al.add 0).add 0) (.slice a3 a2 a1)) fun a9 =>
 ∃ (a5 : Int), a9.cell? (al.add 1) = some (.int .i64 a5) ∧
 canStore a9 ((al.add 1).add 0) ∧
 thenW (a9.setCell ((al.add 1).add 0) (.int .i64 (IntKind.i64.wrap (a5 + 1)))) fun ac =>
 ∃ (aa : Option Addr) (ad : Nat) (ab : Nat) (a4 : Int), cellsAt ac al [.slice aa ad ab, .int .i64 a4] 0 ∧
 canStore ac (an.add 0) ∧
 thenW (ac.setCell (an.add 0) (.slice aa ad ab)) fun ag =>
 canStore ag (an.add 1) ∧
 thenW (ag.setCell (an.add 1) (.int .i64 a4)) fun ae =>
 ∃ (a6 : Option Addr) (a7 : Nat) (a8 : Nat) (a0 : Int), cellsAt ae an [.slice a6 a7 a8, .int .i64 a0] 0 ∧
 R (.tuple #[.agg #[.slice a6 a7 a8, .int .i64 a0], .int .i64 0]) ae

abbrev members_State_begin.J2 (ah : Addr) (b1 : Addr) (b0 : Addr) (R : Value → World → Prop) (ax : World) : Prop :=
 thenW (ax.drew) fun a7 =>
 ∃ (ao : Option Addr) (aj : Nat) (an : Nat), a7.cell? (b1.add 5) = some (.slice ao aj an) ∧
 ∃ (a9 : Int), a7.cell? (b0.add 1) = some (.int .i64 a9) ∧
 bif !(((aj : Int) == 0) == (decide (a9 < 0))) then (
 canStore a7 (ah.add 0) ∧
 thenW (a7.setCell (ah.add 0) (.slice none 0 0)) fun au =>
 canStore au (ah.add 1) ∧
 thenW (au.setCell (ah.add 1) (.int .i64 0)) fun aq =>
 ∃ (aa : Option Addr) (ac : Nat) (ab : Nat) (a4 : Int), cellsAt aq ah [.slice aa ac ab, .int .i64 a4] 0 ∧
 R (.tuple #[.agg #[.slice aa ac ab, .int .i64 a4], .int .i64 10]) aq) else (
 ∃ (ak : Option Addr) (al : Nat) (am : Nat) (a6 : Int), cellsAt a7 b0 [.slice ak al am, .int .i64 a6] 0 ∧
 ∃ (a3 : Option Addr) (a2 : Nat) (a1 : Nat), a7.cell? (b1.add 4) = some (.slice a3 a2 a1) ∧
 Calls Try.prog 29 #[.agg #[.slice ak al am, .int .i64 a6]] a7 fun ay aw => ∃ (ag : Option Addr) (ai : Nat) (af : Nat), ay = .returned (.slice ag ai af) ∧
 aw.cell? (b1.add 4) = some (.slice a3 a2 a1) ∧
 Calls Try.prog 65 #[.slice ag ai af, .slice a3 a2 a1, .func (.func 66) #[] #[]] aw fun az ap => ∃ (a5 : Bool), az = .returned (.bool a5) ∧
 bif !a5 then (
 canStore ap (ah.add 0) ∧
 thenW (ap.setCell (ah.add 0) (.slice none 0 0)) fun ar =>
 canStore ar (ah.add 1) ∧
 thenW (ar.setCell (ah.add 1) (.int .i64 0)) fun av =>
 ∃ (ad : Option Addr) (a8 : Nat) (ae : Nat) (a0 : Int), cellsAt av ah [.slice ad a8 ae, .int .i64 a0] 0 ∧
 R (.tuple #[.agg #[.slice ad a8 ae, .int .i64 a0], .int .i64 10]) av) else (
 members_State_begin.J1 ah b0 R ap))

def members_State_begin.M (ak : Option Addr) (am : Nat) (al : Nat) (aa : Int) (ad : Int) (aj : Int) (a6 : Int) (ab : Int) (a9 : Option Addr) (a7 : Nat) (a8 : Nat) (ae : Option Addr) (ag : Nat) (af : Nat) (R : Value → World → Prop) (w : World) : Prop :=
 thenW (w.alloc (.cells #[.slice ak am al, .int .i64 aa] 43)) fun an =>
 thenW (an.alloc (.cells #[.int .i64 ad, .int .i64 aj, .int .u64 a6, .int .i64 ab, .slice a9 a7 a8, .slice ae ag af] 52)) fun a1 =>
 thenW (a1.alloc (.cells #[.slice none 0 0, .int .i64 0] 43)) fun ac =>
 ∃ (a4 : Int), ac.cell? ((blk w.heap.size).add 1) = some (.int .i64 a4) ∧
 bif decide ((IntKind.i64.wrap (a4 + 1)) ≥ 20) then (
 canStore ac ((blk a1.heap.size).add 0) ∧
 thenW (ac.setCell ((blk a1.heap.size).add 0) (.slice none 0 0)) fun ai =>
 canStore ai ((blk a1.heap.size).add 1) ∧
 thenW (ai.setCell ((blk a1.heap.size).add 1) (.int .i64 0)) fun ah =>
 ∃ (a3 : Option Addr) (a2 : Nat) (a5 : Nat) (a0 : Int), cellsAt ah (blk a1.heap.size) [.slice a3 a2 a5, .int .i64 a0] 0 ∧
 R (.tuple #[.agg #[.slice a3 a2 a5, .int .i64 a0], .int .i64 2]) ah) else (
 members_State_begin.J2 (blk a1.heap.size) (blk an.heap.size) (blk w.heap.size) R ac)

theorem members_State_begin.eq (sL1a : Option Addr) (sL1n : Nat) (sL1c : Nat) (sEpoch2 : Int) (cKind3 : Int) (cWho4 : Int) (cPublic5 : Int) (cLimit6 : Int) (cWraps7a : Option Addr) (cWraps7n : Nat) (cWraps7c : Nat) (cOld8a : Option Addr) (cOld8n : Nat) (cOld8c : Nat) (R : Value → World → Prop) (w : World) : mfunc Try.prog [] 35 [.agg #[.slice sL1a sL1n sL1c, .int .i64 sEpoch2], .agg #[.int .i64 cKind3, .int .i64 cWho4, .int .u64 cPublic5, .int .i64 cLimit6, .slice cWraps7a cWraps7n cWraps7c, .slice cOld8a cOld8n cOld8c]] R w = members_State_begin.M sL1a sL1n sL1c sEpoch2 cKind3 cWho4 cPublic5 cLimit6 cWraps7a cWraps7n cWraps7c cOld8a cOld8n cOld8c R w := by kernel_rfl
theorem members_State_begin.ok (ab : Option Addr) (ac : Nat) (ad : Nat) (a4 : Int) (a6 : Int) (aa : Int) (a0 : Int) (a5 : Int) (a3 : Option Addr) (a2 : Nat) (a1 : Nat) (a7 : Option Addr) (a9 : Nat) (a8 : Nat) {R : Value → World → Prop} {w : World} (h : members_State_begin.M ab ac ad a4 a6 aa a0 a5 a3 a2 a1 a7 a9 a8 R w) : Calls Try.prog 35 #[.agg #[.slice ab ac ad, .int .i64 a4], .agg #[.int .i64 a6, .int .i64 aa, .int .u64 a0, .int .i64 a5, .slice a3 a2 a1, .slice a7 a9 a8]] w fun e w' => ∃ v, e = .returned v ∧ R v w' :=
  mfunc_ok follows (H := []) (args := [.agg #[.slice ab ac ad, .int .i64 a4], .agg #[.int .i64 a6, .int .i64 aa, .int .u64 a0, .int .i64 a5, .slice a3 a2 a1, .slice a7 a9 a8]]) (by rw [members_State_begin.eq]; exact h)

def members_State_begin.N (ag : Option Addr) (am : Nat) (aj : Nat) (a0 : Int) (ar : Int) (b0 : Int) (ai : Int) (aq : Int) (aa : Option Addr) (a6 : Nat) (a8 : Nat) (au : Option Addr) (ab : Nat) (aw : Nat) (R : Value → World → Prop) (w : World) : Prop :=
 (-9223372036854775808 : Int) ≤ (a0 + 1) ∧ (a0 + 1) < 9223372036854775808 ∧
 ((a0 + 1) ≥ 20 →
 ∀ (ak : World), Ext no w ak →
 R (.tuple #[.agg #[.slice none 0 0, .int .i64 0], .int .i64 2]) ak) ∧
 ((a0 + 1) < 20 →
 (((ab : Int) == 0) ≠ (decide (a0 < 0)) →
 ∀ (ao : World), Ext no w ao →
 R (.tuple #[.agg #[.slice none 0 0, .int .i64 0], .int .i64 10]) ao) ∧
 (((ab : Int) == 0) = (decide (a0 < 0)) →
 ∀ (ad : World) (ap : Nat) (az : Nat) (af : Nat), Ext no w ad → Priv w ad [ap, az, af] →
 Calls Try.prog 29 #[.agg #[.slice ag am aj, .int .i64 a0]] ad fun ax ae => ∃ (a5 : Option Addr) (a9 : Nat) (a7 : Nat), ax = .returned (.slice a5 a9 a7) ∧
 Keep [ap, az, af] ad ae ∧
 Calls Try.prog 65 #[.slice a5 a9 a7, .slice aa a6 a8, .func (.func 66) #[] #[]] ae fun av ac => ∃ (a1 : Bool), av = .returned (.bool a1) ∧
 Keep [ap, af] ae ac ∧
 (a1 = false →
 ∀ (al : World), Ext (fun b => b = af) ac al →
 R (.tuple #[.agg #[.slice none 0 0, .int .i64 0], .int .i64 10]) al) ∧
 (a1 = true →
 Calls Try.prog 67 #[.slice ag am aj] ac fun ay ah => ∃ (a3 : Option Addr) (a4 : Nat) (a2 : Nat), ay = .returned (.slice a3 a4 a2) ∧
 Keep [ap, af] ac ah ∧
 (-9223372036854775808 : Int) ≤ (a0 + 1) ∧ (a0 + 1) < 9223372036854775808 ∧
 ∀ (an : World), Ext (fun b => b = af ∨ b = ap) ah an →
 R (.tuple #[.agg #[.slice a3 a4 a2, .int .i64 (a0 + 1)], .int .i64 0]) an)))

theorem members_State_begin.up (aj : Option Addr) (ak : Nat) (al : Nat) (a1 : Int) (ah : Int) (an : Int) (aa : Int) (af : Int) (a9 : Option Addr) (a4 : Nat) (a8 : Nat) (ae : Option Addr) (ad : Nat) (ab : Nat) {R : Value → World → Prop} {w : World} (h : members_State_begin.N aj ak al a1 ah an aa af a9 a4 a8 ae ad ab R w) : members_State_begin.M aj ak al a1 ah an aa af a9 a4 a8 ae ad ab R w := by
  unfold members_State_begin.M
  unfold members_State_begin.N at h
  refine thenW_in fun c4 e9 => ?_
  have a2 := Blk.of_new e9
  have cd := ((Ext.refl no w)).size
  have bs := (Ext.refl no w).x_alloc e9
  refine thenW_in fun a3 bf => ?_
  have ag := Blk.of_new bf
  have c7 := (bs).size
  have bu := Nat.ne_of_lt a2.lt
  have a2 := a2.x_alloc bf
  have av := bs.x_alloc bf
  refine thenW_in fun c5 az => ?_
  have a0 := Blk.of_new az
  have ax := (av).size
  have am := Nat.ne_of_lt a2.lt
  have a2 := a2.x_alloc az
  have bz := Nat.ne_of_lt ag.lt
  have ag := ag.x_alloc az
  have au := av.x_alloc az
  refine ⟨a1, a2.celli 1 rfl rfl, ?_⟩
  obtain ⟨b4, bd, h⟩ := h
  try rw [w64 b4 bd]
  refine bif_of (fun bi => ?_) (fun bi => ?_)
  ·have h := h.1 (of_decide_eq_true bi)
   refine ⟨a0.cani 0 rfl rfl, thenW_in fun cc bv => ?_⟩
   have bq := au.x_set (q := a3.heap.size) (i := 0) rfl (.inr ax) bv
   have a0 := a0.seti 0 rfl bv
   refine ⟨a0.cani 1 rfl rfl, thenW_in fun bm bx => ?_⟩
   have bk := bq.x_set (q := a3.heap.size) (i := 1) rfl (.inr ax) bx
   have a0 := a0.seti 1 rfl bx
   refine ⟨none, 0, 0, 0, ⟨a0.celli 0 rfl rfl, a0.celli 1 rfl rfl, trivial⟩, ?_⟩
   have h := h bm bk
   exact h
  have h := h.2 (Int.not_le.1 (of_decide_eq_false bi))
  unfold members_State_begin.J2
  refine thenW_in fun b3 ay => ?_
  have aw := au.x_drew ay
  have a2 := a2.x_drew ay
  have ag := ag.x_drew ay
  have a0 := a0.x_drew ay
  refine ⟨ae, ad, ab, ag.celli 5 rfl rfl, ?_⟩
  refine ⟨a1, a2.celli 1 rfl rfl, ?_⟩
  refine bif_of (fun b7 => ?_) (fun b7 => ?_)
  ·have h := h.1 (bbeq_f (not_t b7))
   refine ⟨a0.cani 0 rfl rfl, thenW_in fun cf c2 => ?_⟩
   have b8 := aw.x_set (q := a3.heap.size) (i := 0) rfl (.inr ax) c2
   have a0 := a0.seti 0 rfl c2
   refine ⟨a0.cani 1 rfl rfl, thenW_in fun bg bw => ?_⟩
   have be := b8.x_set (q := a3.heap.size) (i := 1) rfl (.inr ax) bw
   have a0 := a0.seti 1 rfl bw
   refine ⟨none, 0, 0, 0, ⟨a0.celli 0 rfl rfl, a0.celli 1 rfl rfl, trivial⟩, ?_⟩
   have h := h bg be
   exact h
  have h := h.2 (bbeq_t (not_f b7))
  refine ⟨aj, ak, al, a1, ⟨a2.celli 0 rfl rfl, a2.celli 1 rfl rfl, trivial⟩, ?_⟩
  refine ⟨a9, a4, a8, ag.celli 4 rfl rfl, ?_⟩
  have h := h b3 (w.heap.size) (c4.heap.size) (a3.heap.size) aw (Priv.cons cd a2.lt (Priv.cons c7 ag.lt (Priv.cons ax a0.lt Priv.nil)))
  refine h.mono fun ce c6 h => ?_
  obtain ⟨ao, aq, ap, he, hk, h⟩ := h
  refine ⟨ao, aq, ap, he, ?_⟩
  have a2 := hk.blk a2 (by simp)
  have ag := hk.blk ag (by simp)
  have a0 := hk.blk a0 (by simp)
  refine ⟨ag.celli 4 rfl rfl, ?_⟩
  refine h.mono fun ca ar h => ?_
  obtain ⟨ac, he, hk, h⟩ := h
  refine ⟨ac, he, ?_⟩
  have a2 := hk.blk a2 (by simp)
  have a0 := hk.blk a0 (by simp)
  refine bif_of (fun bb => ?_) (fun bb => ?_)
  ·have h := h.1 (not_t bb)
   have b2 : Ext (fun b => b = a3.heap.size) ar ar := ((Ext.refl no ar)).none
   refine ⟨a0.cani 0 rfl rfl, thenW_in fun c9 br => ?_⟩
   have b0 := b2.x_set (q := a3.heap.size) (i := 0) rfl (.inl rfl) br
   have a0 := a0.seti 0 rfl br
   refine ⟨a0.cani 1 rfl rfl, thenW_in fun bn c0 => ?_⟩
   have b6 := b0.x_set (q := a3.heap.size) (i := 1) rfl (.inl rfl) c0
   have a0 := a0.seti 1 rfl c0
   refine ⟨none, 0, 0, 0, ⟨a0.celli 0 rfl rfl, a0.celli 1 rfl rfl, trivial⟩, ?_⟩
   have h := h bn b6
   exact h
  have h := h.2 (not_f bb)
  unfold members_State_begin.J1
  refine ⟨aj, ak, al, a2.celli 0 rfl rfl, ?_⟩
  refine h.mono fun c8 ai h => ?_
  obtain ⟨a6, a5, a7, he, hk, h⟩ := h
  refine ⟨a6, a5, a7, he, ?_⟩
  have a2 := hk.blk a2 (by simp)
  have a0 := hk.blk a0 (by simp)
  have bl : Ext (fun b => b = w.heap.size) ai ai := ((Ext.refl no ai)).none
  refine ⟨a2.cani 0 rfl rfl, thenW_in fun c3 bp => ?_⟩
  have b9 := bl.x_set (q := w.heap.size) (i := 0) rfl (.inl rfl) bp
  have a2 := a2.seti 0 rfl bp
  have a0 := a0.oth (q := w.heap.size) (i := 0) rfl (Ne.symm am) bp
  refine ⟨a1, a2.celli 1 rfl rfl, ?_⟩
  obtain ⟨b4, bd, h⟩ := h
  try rw [w64 b4 bd]
  refine ⟨a2.cani 1 rfl rfl, thenW_in fun bj bo => ?_⟩
  have ba := b9.x_set (q := w.heap.size) (i := 1) rfl (.inl rfl) bo
  have a2 := a2.seti 1 rfl bo
  have a0 := a0.oth (q := w.heap.size) (i := 1) rfl (Ne.symm am) bo
  refine ⟨a6, a5, a7, (a1 + 1), ⟨a2.celli 0 rfl rfl, a2.celli 1 rfl rfl, trivial⟩, ?_⟩
  have bc : Ext (fun b => b = a3.heap.size ∨ b = w.heap.size) ai bj := (ba).mono fun _ h _ => .inr h
  refine ⟨a0.cani 0 rfl rfl, thenW_in fun cb bt => ?_⟩
  have b5 := bc.x_set (q := a3.heap.size) (i := 0) rfl (.inl (.inl rfl)) bt
  have a0 := a0.seti 0 rfl bt
  refine ⟨a0.cani 1 rfl rfl, thenW_in fun b1 c1 => ?_⟩
  have bh := b5.x_set (q := a3.heap.size) (i := 1) rfl (.inl (.inl rfl)) c1
  have a0 := a0.seti 1 rfl c1
  refine ⟨a6, a5, a7, (a1 + 1), ⟨a0.celli 0 rfl rfl, a0.celli 1 rfl rfl, trivial⟩, ?_⟩
  have h := h b1 bh
  exact h

theorem members_State_begin.go (ab : Option Addr) (ac : Nat) (ad : Nat) (a4 : Int) (a6 : Int) (aa : Int) (a0 : Int) (a5 : Int) (a3 : Option Addr) (a2 : Nat) (a1 : Nat) (a7 : Option Addr) (a9 : Nat) (a8 : Nat) {R : Value → World → Prop} {w : World} (h : members_State_begin.N ab ac ad a4 a6 aa a0 a5 a3 a2 a1 a7 a9 a8 R w) : Calls Try.prog 35 #[.agg #[.slice ab ac ad, .int .i64 a4], .agg #[.int .i64 a6, .int .i64 aa, .int .u64 a0, .int .i64 a5, .slice a3 a2 a1, .slice a7 a9 a8]] w fun e w' => ∃ v, e = .returned v ∧ R v w' := members_State_begin.ok ab ac ad a4 a6 aa a0 a5 a3 a2 a1 a7 a9 a8 (members_State_begin.up ab ac ad a4 a6 aa a0 a5 a3 a2 a1 a7 a9 a8 h)
abbrev members_Apply.J1 (ap : Option Addr) (au : Nat) (av : Nat) (aq : Int) (ao : Addr) (ar : Addr) (R : Value → World → Prop) (ai : World) : Prop :=
 ∃ (aa : Int) (af : Int) (a1 : Int) (a6 : Int) (a4 : Option Addr) (a3 : Nat) (a2 : Nat) (ad : Option Addr) (a9 : Nat) (ac : Nat), cellsAt ai ar [.int .i64 aa, .int .i64 af, .int .u64 a1, .int .i64 a6, .slice a4 a3 a2, .slice ad a9 ac] 0 ∧
 Calls Try.prog 36 #[.agg #[.slice ap au av, .int .i64 aq], .agg #[.int .i64 aa, .int .i64 af, .int .u64 a1, .int .i64 a6, .slice a4 a3 a2, .slice ad a9 ac]] ai fun an al => ∃ (ah : Option Addr) (ak : Nat) (aj : Nat) (ab : Int) (a5 : Int), an = .returned (.tuple #[.agg #[.slice ah ak aj, .int .i64 ab], .int .i64 a5]) ∧
 canStore al (ao.add 0) ∧
 thenW (al.setCell (ao.add 0) (.slice ah ak aj)) fun am =>
 canStore am (ao.add 1) ∧
 thenW (am.setCell (ao.add 1) (.int .i64 ab)) fun ag =>
 ∃ (a7 : Option Addr) (a8 : Nat) (ae : Nat) (a0 : Int), cellsAt ag ao [.slice a7 a8 ae, .int .i64 a0] 0 ∧
 R (.tuple #[.agg #[.slice a7 a8 ae, .int .i64 a0], .int .i64 a5]) ag

abbrev members_Apply.J2 (ap : Option Addr) (aq : Nat) (ar : Nat) (av : Int) (ag : Addr) (au : Addr) (R : Value → World → Prop) (ai : World) : Prop :=
 ∃ (aa : Int) (af : Int) (a1 : Int) (a5 : Int) (a3 : Option Addr) (a2 : Nat) (a4 : Nat) (ac : Option Addr) (a9 : Nat) (ad : Nat), cellsAt ai au [.int .i64 aa, .int .i64 af, .int .u64 a1, .int .i64 a5, .slice a3 a2 a4, .slice ac a9 ad] 0 ∧
 Calls Try.prog 37 #[.agg #[.slice ap aq ar, .int .i64 av], .agg #[.int .i64 aa, .int .i64 af, .int .u64 a1, .int .i64 a5, .slice a3 a2 a4, .slice ac a9 ad]] ai fun ao an => ∃ (ak : Option Addr) (al : Nat) (aj : Nat) (a7 : Int) (a6 : Int), ao = .returned (.tuple #[.agg #[.slice ak al aj, .int .i64 a7], .int .i64 a6]) ∧
 canStore an (ag.add 0) ∧
 thenW (an.setCell (ag.add 0) (.slice ak al aj)) fun ah =>
 canStore ah (ag.add 1) ∧
 thenW (ah.setCell (ag.add 1) (.int .i64 a7)) fun am =>
 ∃ (ab : Option Addr) (ae : Nat) (a8 : Nat) (a0 : Int), cellsAt am ag [.slice ab ae a8, .int .i64 a0] 0 ∧
 R (.tuple #[.agg #[.slice ab ae a8, .int .i64 a0], .int .i64 a6]) am

abbrev members_Apply.J3 (av : Option Addr) (au : Nat) (ar : Nat) (aq : Int) (ag : Addr) (ap : Addr) (R : Value → World → Prop) (ai : World) : Prop :=
 ∃ (a9 : Int) (af : Int) (a1 : Int) (a6 : Int) (a3 : Option Addr) (a4 : Nat) (a2 : Nat) (ae : Option Addr) (a8 : Nat) (ac : Nat), cellsAt ai ap [.int .i64 a9, .int .i64 af, .int .u64 a1, .int .i64 a6, .slice a3 a4 a2, .slice ae a8 ac] 0 ∧
 Calls Try.prog 35 #[.agg #[.slice av au ar, .int .i64 aq], .agg #[.int .i64 a9, .int .i64 af, .int .u64 a1, .int .i64 a6, .slice a3 a4 a2, .slice ae a8 ac]] ai fun ao aj => ∃ (al : Option Addr) (ah : Nat) (am : Nat) (aa : Int) (a5 : Int), ao = .returned (.tuple #[.agg #[.slice al ah am, .int .i64 aa], .int .i64 a5]) ∧
 canStore aj (ag.add 0) ∧
 thenW (aj.setCell (ag.add 0) (.slice al ah am)) fun an =>
 canStore an (ag.add 1) ∧
 thenW (an.setCell (ag.add 1) (.int .i64 aa)) fun ak =>
 ∃ (ad : Option Addr) (a7 : Nat) (ab : Nat) (a0 : Int), cellsAt ak ag [.slice ad a7 ab, .int .i64 a0] 0 ∧
 R (.tuple #[.agg #[.slice ad a7 ab, .int .i64 a0], .int .i64 a5]) ak

abbrev members_Apply.J4 (ag : Addr) (ae : Addr) (af : Addr) (R : Value → World → Prop) (a3 : World) : Prop :=
 ∃ (ab : Option Addr) (ad : Nat) (a9 : Nat) (a1 : Int), cellsAt a3 af [.slice ab ad a9, .int .i64 a1] 0 ∧
 ∃ (a4 : Int), a3.cell? (ae.add 0) = some (.int .i64 a4) ∧
 bif a4 == 1 then (
 ∃ (a8 : Option Addr) (aa : Nat) (ac : Nat) (a2 : Int), cellsAt a3 af [.slice a8 aa ac, .int .i64 a2] 0 ∧
 members_Apply.J1 a8 aa ac a2 ag ae R a3) else (
 bif a4 == 2 then (
 ∃ (a6 : Option Addr) (a5 : Nat) (a7 : Nat) (a0 : Int), cellsAt a3 af [.slice a6 a5 a7, .int .i64 a0] 0 ∧
 members_Apply.J2 a6 a5 a7 a0 ag ae R a3) else (
 members_Apply.J3 ab ad a9 a1 ag ae R a3))

def members_Apply.M (ax : Option Addr) (b1 : Nat) (ay : Nat) (ak : Int) (am : Int) (aw : Int) (ag : Int) (al : Int) (aj : Option Addr) (ah : Nat) (ai : Nat) (an : Option Addr) (ao : Nat) (ap : Nat) (R : Value → World → Prop) (w : World) : Prop :=
 thenW (w.alloc (.cells #[.slice ax b1 ay, .int .i64 ak] 43)) fun az =>
 thenW (az.alloc (.cells #[.int .i64 am, .int .i64 aw, .int .u64 ag, .int .i64 al, .slice aj ah ai, .slice an ao ap] 52)) fun a6 =>
 thenW (a6.alloc (.cells #[.slice none 0 0, .int .i64 0] 43)) fun av =>
 ∃ (a8 : Int) (af : Int) (a2 : Int) (a5 : Int) (a4 : Option Addr) (a3 : Nat) (a1 : Nat) (aa : Option Addr) (ab : Nat) (ac : Nat), cellsAt av (blk az.heap.size) [.int .i64 a8, .int .i64 af, .int .u64 a2, .int .i64 a5, .slice a4 a3 a1, .slice aa ab ac] 0 ∧
 Calls Try.prog 34 #[.agg #[.int .i64 a8, .int .i64 af, .int .u64 a2, .int .i64 a5, .slice a4 a3 a1, .slice aa ab ac]] av fun b0 aq => ∃ (ad : Bool), b0 = .returned (.bool ad) ∧
 bif !ad then (
 canStore aq ((blk a6.heap.size).add 0) ∧
 thenW (aq.setCell ((blk a6.heap.size).add 0) (.slice none 0 0)) fun au =>
 canStore au ((blk a6.heap.size).add 1) ∧
 thenW (au.setCell ((blk a6.heap.size).add 1) (.int .i64 0)) fun ar =>
 ∃ (a9 : Option Addr) (a7 : Nat) (ae : Nat) (a0 : Int), cellsAt ar (blk a6.heap.size) [.slice a9 a7 ae, .int .i64 a0] 0 ∧
 R (.tuple #[.agg #[.slice a9 a7 ae, .int .i64 a0], .int .i64 1]) ar) else (
 members_Apply.J4 (blk a6.heap.size) (blk az.heap.size) (blk w.heap.size) R aq)

theorem members_Apply.eq (sL1a : Option Addr) (sL1n : Nat) (sL1c : Nat) (sEpoch2 : Int) (cKind3 : Int) (cWho4 : Int) (cPublic5 : Int) (cLimit6 : Int) (cWraps7a : Option Addr) (cWraps7n : Nat) (cWraps7c : Nat) (cOld8a : Option Addr) (cOld8n : Nat) (cOld8c : Nat) (R : Value → World → Prop) (w : World) : mfunc Try.prog [] 10 [.agg #[.slice sL1a sL1n sL1c, .int .i64 sEpoch2], .agg #[.int .i64 cKind3, .int .i64 cWho4, .int .u64 cPublic5, .int .i64 cLimit6, .slice cWraps7a cWraps7n cWraps7c, .slice cOld8a cOld8n cOld8c]] R w = members_Apply.M sL1a sL1n sL1c sEpoch2 cKind3 cWho4 cPublic5 cLimit6 cWraps7a cWraps7n cWraps7c cOld8a cOld8n cOld8c R w := by kernel_rfl
theorem members_Apply.ok (ab : Option Addr) (ac : Nat) (ad : Nat) (a4 : Int) (a6 : Int) (aa : Int) (a0 : Int) (a5 : Int) (a3 : Option Addr) (a2 : Nat) (a1 : Nat) (a7 : Option Addr) (a9 : Nat) (a8 : Nat) {R : Value → World → Prop} {w : World} (h : members_Apply.M ab ac ad a4 a6 aa a0 a5 a3 a2 a1 a7 a9 a8 R w) : Calls Try.prog 10 #[.agg #[.slice ab ac ad, .int .i64 a4], .agg #[.int .i64 a6, .int .i64 aa, .int .u64 a0, .int .i64 a5, .slice a3 a2 a1, .slice a7 a9 a8]] w fun e w' => ∃ v, e = .returned v ∧ R v w' :=
  mfunc_ok follows (H := []) (args := [.agg #[.slice ab ac ad, .int .i64 a4], .agg #[.int .i64 a6, .int .i64 aa, .int .u64 a0, .int .i64 a5, .slice a3 a2 a1, .slice a7 a9 a8]]) (by rw [members_Apply.eq]; exact h)

def members_Apply.N (al : Option Addr) (an : Nat) (am : Nat) (a9 : Int) (a0 : Int) (ah : Int) (a1 : Int) (a5 : Int) (a4 : Option Addr) (a2 : Nat) (a3 : Nat) (a6 : Option Addr) (aa : Nat) (a7 : Nat) (R : Value → World → Prop) (w : World) : Prop :=
 ∀ (ak : World) (ba : Nat) (bb : Nat) (aj : Nat), Ext no w ak → Priv w ak [ba, bb, aj] →
 Calls Try.prog 34 #[.agg #[.int .i64 a0, .int .i64 ah, .int .u64 a1, .int .i64 a5, .slice a4 a2 a3, .slice a6 aa a7]] ak fun b8 ae => ∃ (a8 : Bool), b8 = .returned (.bool a8) ∧
 Keep [ba, bb, aj] ak ae ∧
 (a8 = false →
 ∀ (b4 : World), Ext (fun b => b = aj) ae b4 →
 R (.tuple #[.agg #[.slice none 0 0, .int .i64 0], .int .i64 1]) b4) ∧
 (a8 = true →
 (a0 = 1 →
 Calls Try.prog 36 #[.agg #[.slice al an am, .int .i64 a9], .agg #[.int .i64 a0, .int .i64 ah, .int .u64 a1, .int .i64 a5, .slice a4 a2 a3, .slice a6 aa a7]] ae fun b7 ay => ∃ (av : Option Addr) (b0 : Nat) (ao : Nat) (af : Int) (ad : Int), b7 = .returned (.tuple #[.agg #[.slice av b0 ao, .int .i64 af], .int .i64 ad]) ∧
 Keep [aj] ae ay ∧
 ∀ (aq : World), Ext (fun b => b = aj) ay aq →
 R (.tuple #[.agg #[.slice av b0 ao, .int .i64 af], .int .i64 ad]) aq) ∧
 (a0 ≠ 1 →
 (a0 = 2 →
 Calls Try.prog 37 #[.agg #[.slice al an am, .int .i64 a9], .agg #[.int .i64 a0, .int .i64 ah, .int .u64 a1, .int .i64 a5, .slice a4 a2 a3, .slice a6 aa a7]] ae fun b9 b1 => ∃ (b5 : Option Addr) (au : Nat) (b3 : Nat) (ag : Int) (ac : Int), b9 = .returned (.tuple #[.agg #[.slice b5 au b3, .int .i64 ag], .int .i64 ac]) ∧
 Keep [aj] ae b1 ∧
 ∀ (ax : World), Ext (fun b => b = aj) b1 ax →
 R (.tuple #[.agg #[.slice b5 au b3, .int .i64 ag], .int .i64 ac]) ax) ∧
 (a0 ≠ 2 →
 Calls Try.prog 35 #[.agg #[.slice al an am, .int .i64 a9], .agg #[.int .i64 a0, .int .i64 ah, .int .u64 a1, .int .i64 a5, .slice a4 a2 a3, .slice a6 aa a7]] ae fun b6 ap => ∃ (b2 : Option Addr) (aw : Nat) (ar : Nat) (ai : Int) (ab : Int), b6 = .returned (.tuple #[.agg #[.slice b2 aw ar, .int .i64 ai], .int .i64 ab]) ∧
 Keep [aj] ae ap ∧
 ∀ (az : World), Ext (fun b => b = aj) ap az →
 R (.tuple #[.agg #[.slice b2 aw ar, .int .i64 ai], .int .i64 ab]) az)))

theorem members_Apply.up (ag : Option Addr) (ai : Nat) (ah : Nat) (a2 : Int) (a6 : Int) (af : Int) (a0 : Int) (a5 : Int) (a4 : Option Addr) (a1 : Nat) (a3 : Nat) (a8 : Option Addr) (ab : Nat) (aa : Nat) {R : Value → World → Prop} {w : World} (h : members_Apply.N ag ai ah a2 a6 af a0 a5 a4 a1 a3 a8 ab aa R w) : members_Apply.M ag ai ah a2 a6 af a0 a5 a4 a1 a3 a8 ab aa R w := by
  unfold members_Apply.M
  unfold members_Apply.N at h
  refine thenW_in fun bi e9 => ?_
  have ad := Blk.of_new e9
  have bn := ((Ext.refl no w)).size
  have bd := (Ext.refl no w).x_alloc e9
  refine thenW_in fun ac b0 => ?_
  have a9 := Blk.of_new b0
  have bm := (bd).size
  have ba := Nat.ne_of_lt ad.lt
  have ad := ad.x_alloc b0
  have ao := bd.x_alloc b0
  refine thenW_in fun b3 ar => ?_
  have a7 := Blk.of_new ar
  have bk := (ao).size
  have bc := Nat.ne_of_lt ad.lt
  have ad := ad.x_alloc ar
  have b8 := Nat.ne_of_lt a9.lt
  have a9 := a9.x_alloc ar
  have b2 := ao.x_alloc ar
  refine ⟨a6, af, a0, a5, a4, a1, a3, a8, ab, aa, ⟨a9.celli 0 rfl rfl, a9.celli 1 rfl rfl, a9.celli 2 rfl rfl, a9.celli 3 rfl rfl, a9.celli 4 rfl rfl, a9.celli 5 rfl rfl, trivial⟩, ?_⟩
  have h := h b3 (w.heap.size) (bi.heap.size) (ac.heap.size) b2 (Priv.cons bn ad.lt (Priv.cons bm a9.lt (Priv.cons bk a7.lt Priv.nil)))
  refine h.mono fun bj am h => ?_
  obtain ⟨ak, he, hk, h⟩ := h
  refine ⟨ak, he, ?_⟩
  have ad := hk.blk ad (by simp)
  have a9 := hk.blk a9 (by simp)
  have a7 := hk.blk a7 (by simp)
  refine bif_of (fun b5 => ?_) (fun b5 => ?_)
  ·have h := h.1 (not_t b5)
   have b1 : Ext (fun b => b = ac.heap.size) am am := ((Ext.refl no am)).none
   refine ⟨a7.cani 0 rfl rfl, thenW_in fun bg b9 => ?_⟩
   have b4 := b1.x_set (q := ac.heap.size) (i := 0) rfl (.inl rfl) b9
   have a7 := a7.seti 0 rfl b9
   refine ⟨a7.cani 1 rfl rfl, thenW_in fun b6 be => ?_⟩
   have b7 := b4.x_set (q := ac.heap.size) (i := 1) rfl (.inl rfl) be
   have a7 := a7.seti 1 rfl be
   refine ⟨none, 0, 0, 0, ⟨a7.celli 0 rfl rfl, a7.celli 1 rfl rfl, trivial⟩, ?_⟩
   have h := h b6 b7
   exact h
  have h := h.2 (not_f b5)
  unfold members_Apply.J4
  refine ⟨ag, ai, ah, a2, ⟨ad.celli 0 rfl rfl, ad.celli 1 rfl rfl, trivial⟩, ?_⟩
  refine ⟨a6, a9.celli 0 rfl rfl, ?_⟩
  refine bif_of (fun ay => ?_) (fun ay => ?_)
  have h := h.1 (beq_t ay)
  refine ⟨ag, ai, ah, a2, ⟨ad.celli 0 rfl rfl, ad.celli 1 rfl rfl, trivial⟩, ?_⟩
  rotate_left
  focus
   have h := h.2 (beq_f ay)
   refine bif_of (fun aw => ?_) (fun aw => ?_)
   have h := h.1 (beq_t aw)
   refine ⟨ag, ai, ah, a2, ⟨ad.celli 0 rfl rfl, ad.celli 1 rfl rfl, trivial⟩, ?_⟩
   rotate_left
   have h := h.2 (beq_f aw)
   rotate_left
  rotate_left 2
  all_goals
   first | unfold members_Apply.J1 | unfold members_Apply.J2 | unfold members_Apply.J3
   refine ⟨a6, af, a0, a5, a4, a1, a3, a8, ab, aa, ⟨a9.celli 0 rfl rfl, a9.celli 1 rfl rfl, a9.celli 2 rfl rfl, a9.celli 3 rfl rfl, a9.celli 4 rfl rfl, a9.celli 5 rfl rfl, trivial⟩, ?_⟩
   refine h.mono fun bh al h => ?_
   obtain ⟨ap, aq, an, ae, aj, he, hk, h⟩ := h
   refine ⟨ap, aq, an, ae, aj, he, ?_⟩
   have a7 := hk.blk a7 (by simp)
   have au : Ext (fun b => b = ac.heap.size) al al := ((Ext.refl no al)).none
   refine ⟨a7.cani 0 rfl rfl, thenW_in fun bl bf => ?_⟩
   have ax := au.x_set (q := ac.heap.size) (i := 0) rfl (.inl rfl) bf
   have a7 := a7.seti 0 rfl bf
   refine ⟨a7.cani 1 rfl rfl, thenW_in fun av bb => ?_⟩
   have az := ax.x_set (q := ac.heap.size) (i := 1) rfl (.inl rfl) bb
   have a7 := a7.seti 1 rfl bb
   refine ⟨ap, aq, an, ae, ⟨a7.celli 0 rfl rfl, a7.celli 1 rfl rfl, trivial⟩, ?_⟩
   have h := h av az
   exact h

theorem members_Apply.go (ab : Option Addr) (ac : Nat) (ad : Nat) (a4 : Int) (a6 : Int) (aa : Int) (a0 : Int) (a5 : Int) (a3 : Option Addr) (a2 : Nat) (a1 : Nat) (a7 : Option Addr) (a9 : Nat) (a8 : Nat) {R : Value → World → Prop} {w : World} (h : members_Apply.N ab ac ad a4 a6 aa a0 a5 a3 a2 a1 a7 a9 a8 R w) : Calls Try.prog 10 #[.agg #[.slice ab ac ad, .int .i64 a4], .agg #[.int .i64 a6, .int .i64 aa, .int .u64 a0, .int .i64 a5, .slice a3 a2 a1, .slice a7 a9 a8]] w fun e w' => ∃ v, e = .returned v ∧ R v w' := members_Apply.ok ab ac ad a4 a6 aa a0 a5 a3 a2 a1 a7 a9 a8 (members_Apply.up ab ac ad a4 a6 aa a0 a5 a3 a2 a1 a7 a9 a8 h)
def members_Find.M (b7 : Option Addr) (bc : Nat) (b9 : Nat) (am : Int) (ba : Int) (R : Value → World → Prop) (w : World) : Prop :=
 thenW (w.alloc (.cells #[.slice b7 bc b9, .int .i64 am] 43)) fun a2 =>
 thenW (a2.alloc (.cells #[.int .i64 0, .int .u64 0, .int .i64 0, .int .i64 0, .int .i64 0] 70)) fun bd =>
 ∃ (aq : Option Addr) (av : Nat) (b4 : Nat) (ai : Int), cellsAt bd (blk w.heap.size) [.slice aq av b4, .int .i64 ai] 0 ∧
 Calls Try.prog 47 #[.agg #[.slice aq av b4, .int .i64 ai], .int .i64 ba] bd fun b8 ad => ∃ (af : Int) (an : Bool), b8 = .returned (.tuple #[.int .i64 af, .bool an]) ∧
 bif !an then (
 ∃ (al : Int) (a6 : Int) (aj : Int) (ap : Int) (a9 : Int), cellsAt ad (blk a2.heap.size) [.int .i64 al, .int .u64 a6, .int .i64 aj, .int .i64 ap, .int .i64 a9] 0 ∧
 canStore ad ((blk a2.heap.size).add 0) ∧
 thenW (ad.setCell ((blk a2.heap.size).add 0) (.int .i64 al)) fun b2 =>
 canStore b2 ((blk a2.heap.size).add 1) ∧
 thenW (b2.setCell ((blk a2.heap.size).add 1) (.int .u64 a6)) fun b1 =>
 canStore b1 ((blk a2.heap.size).add 2) ∧
 thenW (b1.setCell ((blk a2.heap.size).add 2) (.int .i64 aj)) fun au =>
 canStore au ((blk a2.heap.size).add 3) ∧
 thenW (au.setCell ((blk a2.heap.size).add 3) (.int .i64 ap)) fun b5 =>
 canStore b5 ((blk a2.heap.size).add 4) ∧
 thenW (b5.setCell ((blk a2.heap.size).add 4) (.int .i64 a9)) fun az =>
 ∃ (aa : Int) (a1 : Int) (a7 : Int) (ag : Int) (a4 : Int), cellsAt az (blk a2.heap.size) [.int .i64 aa, .int .u64 a1, .int .i64 a7, .int .i64 ag, .int .i64 a4] 0 ∧
 R (.tuple #[.agg #[.int .i64 aa, .int .u64 a1, .int .i64 a7, .int .i64 ag, .int .i64 a4], .bool false]) az) else (
 ∃ (b0 : Option Addr) (b6 : Nat) (bb : Nat), ad.cell? ((blk w.heap.size).add 0) = some (.slice b0 b6 bb) ∧
 b0.elim False fun be =>
 0 ≤ (af : Int) ∧ (af : Int) < (b6 : Int) ∧
 ∃ (ak : Int) (a8 : Int) (ae : Int) (ao : Int) (ac : Int), cellsAt ad (be.add (Int.toNat af * 5)) [.int .i64 ak, .int .u64 a8, .int .i64 ae, .int .i64 ao, .int .i64 ac] 0 ∧
 canStore ad ((blk a2.heap.size).add 0) ∧
 thenW (ad.setCell ((blk a2.heap.size).add 0) (.int .i64 ak)) fun b3 =>
 canStore b3 ((blk a2.heap.size).add 1) ∧
 thenW (b3.setCell ((blk a2.heap.size).add 1) (.int .u64 a8)) fun ar =>
 canStore ar ((blk a2.heap.size).add 2) ∧
 thenW (ar.setCell ((blk a2.heap.size).add 2) (.int .i64 ae)) fun aw =>
 canStore aw ((blk a2.heap.size).add 3) ∧
 thenW (aw.setCell ((blk a2.heap.size).add 3) (.int .i64 ao)) fun ay =>
 canStore ay ((blk a2.heap.size).add 4) ∧
 thenW (ay.setCell ((blk a2.heap.size).add 4) (.int .i64 ac)) fun ax =>
 ∃ (ab : Int) (a0 : Int) (a5 : Int) (ah : Int) (a3 : Int), cellsAt ax (blk a2.heap.size) [.int .i64 ab, .int .u64 a0, .int .i64 a5, .int .i64 ah, .int .i64 a3] 0 ∧
 R (.tuple #[.agg #[.int .i64 ab, .int .u64 a0, .int .i64 a5, .int .i64 ah, .int .i64 a3], .bool true]) ax)

theorem members_Find.eq (sL1a : Option Addr) (sL1n : Nat) (sL1c : Nat) (sEpoch2 : Int) (who3 : Int) (R : Value → World → Prop) (w : World) : mfunc Try.prog [] 16 [.agg #[.slice sL1a sL1n sL1c, .int .i64 sEpoch2], .int .i64 who3] R w = members_Find.M sL1a sL1n sL1c sEpoch2 who3 R w := by kernel_rfl
theorem members_Find.ok (a1 : Option Addr) (a2 : Nat) (a3 : Nat) (a0 : Int) (a4 : Int) {R : Value → World → Prop} {w : World} (h : members_Find.M a1 a2 a3 a0 a4 R w) : Calls Try.prog 16 #[.agg #[.slice a1 a2 a3, .int .i64 a0], .int .i64 a4] w fun e w' => ∃ v, e = .returned v ∧ R v w' :=
  mfunc_ok follows (H := []) (args := [.agg #[.slice a1 a2 a3, .int .i64 a0], .int .i64 a4]) (by rw [members_Find.eq]; exact h)

def members_Find.N (a9 : Option Addr) (aa : Nat) (af : Nat) (a7 : Int) (ag : Int) (R : Value → World → Prop) (w : World) : Prop :=
 ∀ (ad : World) (p6 : Nat) (p7 : Nat), Ext no w ad → Priv w ad [p6, p7] →
 Calls Try.prog 47 #[.agg #[.slice a9 aa af, .int .i64 a7], .int .i64 ag] ad fun ae a6 => ∃ (a2 : Int) (a4 : Bool), ae = .returned (.tuple #[.int .i64 a2, .bool a4]) ∧
 Keep [p6, p7] ad a6 ∧
 (a4 = false →
 ∀ (ac : World), Ext (fun b => b = p7) a6 ac →
 R (.tuple #[.agg #[.int .i64 0, .int .u64 0, .int .i64 0, .int .i64 0, .int .i64 0], .bool false]) ac) ∧
 (a4 = true →
 ∃ ah : Addr, a9 = some ah ∧
 0 ≤ (a2 : Int) ∧ (a2 : Int) < (aa : Int) ∧
 ∃ (a5 : Int) (a0 : Int) (a3 : Int) (a8 : Int) (a1 : Int), cellsAt a6 (ah.add (Int.toNat a2 * 5)) [.int .i64 a5, .int .u64 a0, .int .i64 a3, .int .i64 a8, .int .i64 a1] 0 ∧
 ∀ (ab : World), Ext (fun b => b = p7) a6 ab →
 R (.tuple #[.agg #[.int .i64 a5, .int .u64 a0, .int .i64 a3, .int .i64 a8, .int .i64 a1], .bool true]) ab)

theorem members_Find.up (a9 : Option Addr) (ac : Nat) (aa : Nat) (a6 : Int) (af : Int) {R : Value → World → Prop} {w : World} (h : members_Find.N a9 ac aa a6 af R w) : members_Find.M a9 ac aa a6 af R w := by
  unfold members_Find.M
  unfold members_Find.N at h
  refine thenW_in fun a5 e4 => ?_
  have ab := Blk.of_new e4
  have bo := ((Ext.refl no w)).size
  have b9 := (Ext.refl no w).x_alloc e4
  refine thenW_in fun bk e5 => ?_
  have a0 := Blk.of_new e5
  have bn := (b9).size
  have b7 := Nat.ne_of_lt ab.lt
  have ab := ab.x_alloc e5
  have bp := b9.x_alloc e5
  refine ⟨a9, ac, aa, a6, ⟨ab.celli 0 rfl rfl, ab.celli 1 rfl rfl, trivial⟩, ?_⟩
  have h := h bk (w.heap.size) (a5.heap.size) bp (Priv.cons bo ab.lt (Priv.cons bn a0.lt Priv.nil))
  refine h.mono fun bl a8 h => ?_
  obtain ⟨ae, ad, he, hk, h⟩ := h
  refine ⟨ae, ad, he, ?_⟩
  have ab := hk.blk ab (by simp)
  have a0 := hk.blk a0 (by simp)
  refine bif_of (fun b2 => ?_) (fun b2 => ?_)
  ·have h := h.1 (not_t b2)
   refine ⟨0, 0, 0, 0, 0, ⟨a0.celli 0 rfl rfl, a0.celli 1 rfl rfl, a0.celli 2 rfl rfl, a0.celli 3 rfl rfl, a0.celli 4 rfl rfl, trivial⟩, ?_⟩
   have az : Ext (fun b => b = a5.heap.size) a8 a8 := ((Ext.refl no a8)).none
   refine ⟨a0.cani 0 rfl rfl, thenW_in fun b0 ba => ?_⟩
   have ax := az.x_set (q := a5.heap.size) (i := 0) rfl (.inl rfl) ba
   have a0 : Blk b0 a5.heap.size 70 [.int .i64 0, .int .u64 0, .int .i64 0, .int .i64 0, .int .i64 0] := a0.seti 0 rfl ba
   refine ⟨a0.cani 1 rfl rfl, thenW_in fun aq bd => ?_⟩
   have al := ax.x_set (q := a5.heap.size) (i := 1) rfl (.inl rfl) bd
   have a0 : Blk aq a5.heap.size 70 [.int .i64 0, .int .u64 0, .int .i64 0, .int .i64 0, .int .i64 0] := a0.seti 1 rfl bd
   refine ⟨a0.cani 2 rfl rfl, thenW_in fun b3 bb => ?_⟩
   have ap := al.x_set (q := a5.heap.size) (i := 2) rfl (.inl rfl) bb
   have a0 : Blk b3 a5.heap.size 70 [.int .i64 0, .int .u64 0, .int .i64 0, .int .i64 0, .int .i64 0] := a0.seti 2 rfl bb
   refine ⟨a0.cani 3 rfl rfl, thenW_in fun b6 bi => ?_⟩
   have b1 := ap.x_set (q := a5.heap.size) (i := 3) rfl (.inl rfl) bi
   have a0 : Blk b6 a5.heap.size 70 [.int .i64 0, .int .u64 0, .int .i64 0, .int .i64 0, .int .i64 0] := a0.seti 3 rfl bi
   refine ⟨a0.cani 4 rfl rfl, thenW_in fun ah bc => ?_⟩
   have ar := b1.x_set (q := a5.heap.size) (i := 4) rfl (.inl rfl) bc
   have a0 : Blk ah a5.heap.size 70 [.int .i64 0, .int .u64 0, .int .i64 0, .int .i64 0, .int .i64 0] := a0.seti 4 rfl bc
   refine ⟨0, 0, 0, 0, 0, ⟨a0.celli 0 rfl rfl, a0.celli 1 rfl rfl, a0.celli 2 rfl rfl, a0.celli 3 rfl rfl, a0.celli 4 rfl rfl, trivial⟩, ?_⟩
   have h := h ah ar
   exact h
  have h := h.2 (not_f b2)
  refine ⟨a9, ac, aa, ab.celli 0 rfl rfl, ?_⟩
  obtain ⟨bq, b5, h⟩ := h
  refine elim_some b5 ?_
  obtain ⟨bj, bm, h⟩ := h
  refine ⟨bj, bm, ?_⟩
  obtain ⟨a2, a1, a3, a7, a4, au, h⟩ := h
  refine ⟨a2, a1, a3, a7, a4, au, ?_⟩
  have aw : Ext (fun b => b = a5.heap.size) a8 a8 := ((Ext.refl no a8)).none
  refine ⟨a0.cani 0 rfl rfl, thenW_in fun aj bf => ?_⟩
  have ak := aw.x_set (q := a5.heap.size) (i := 0) rfl (.inl rfl) bf
  have a0 : Blk aj a5.heap.size 70 [.int .i64 a2, .int .u64 0, .int .i64 0, .int .i64 0, .int .i64 0] := a0.seti 0 rfl bf
  refine ⟨a0.cani 1 rfl rfl, thenW_in fun av be => ?_⟩
  have b4 := ak.x_set (q := a5.heap.size) (i := 1) rfl (.inl rfl) be
  have a0 : Blk av a5.heap.size 70 [.int .i64 a2, .int .u64 a1, .int .i64 0, .int .i64 0, .int .i64 0] := a0.seti 1 rfl be
  refine ⟨a0.cani 2 rfl rfl, thenW_in fun ay bh => ?_⟩
  have an := b4.x_set (q := a5.heap.size) (i := 2) rfl (.inl rfl) bh
  have a0 : Blk ay a5.heap.size 70 [.int .i64 a2, .int .u64 a1, .int .i64 a3, .int .i64 0, .int .i64 0] := a0.seti 2 rfl bh
  refine ⟨a0.cani 3 rfl rfl, thenW_in fun ai b8 => ?_⟩
  have ao := an.x_set (q := a5.heap.size) (i := 3) rfl (.inl rfl) b8
  have a0 : Blk ai a5.heap.size 70 [.int .i64 a2, .int .u64 a1, .int .i64 a3, .int .i64 a7, .int .i64 0] := a0.seti 3 rfl b8
  refine ⟨a0.cani 4 rfl rfl, thenW_in fun ag bg => ?_⟩
  have am := ao.x_set (q := a5.heap.size) (i := 4) rfl (.inl rfl) bg
  have a0 : Blk ag a5.heap.size 70 [.int .i64 a2, .int .u64 a1, .int .i64 a3, .int .i64 a7, .int .i64 a4] := a0.seti 4 rfl bg
  refine ⟨a2, a1, a3, a7, a4, ⟨a0.celli 0 rfl rfl, a0.celli 1 rfl rfl, a0.celli 2 rfl rfl, a0.celli 3 rfl rfl, a0.celli 4 rfl rfl, trivial⟩, ?_⟩
  have h := h ag am
  exact h

theorem members_Find.go (a1 : Option Addr) (a2 : Nat) (a3 : Nat) (a0 : Int) (a4 : Int) {R : Value → World → Prop} {w : World} (h : members_Find.N a1 a2 a3 a0 a4 R w) : Calls Try.prog 16 #[.agg #[.slice a1 a2 a3, .int .i64 a0], .int .i64 a4] w fun e w' => ∃ v, e = .returned v ∧ R v w' := members_Find.ok a1 a2 a3 a0 a4 (members_Find.up a1 a2 a3 a0 a4 h)
theorem members_Find.run (a1 : Option Addr) (a2 : Nat) (a3 : Nat) (a0 : Int) (a4 : Int) {V : Value} {Q : World → Prop} {w : World} (h : members_Find.N a1 a2 a3 a0 a4 (fun v w' => v = V ∧ Q w') w) : Calls Try.prog 16 #[.agg #[.slice a1 a2 a3, .int .i64 a0], .int .i64 a4] w (Ret V Q) := (members_Find.go a1 a2 a3 a0 a4 h).mono fun e w' ⟨v, he, hv, hq⟩ => ⟨by rw [he, hv], hq⟩

abbrev members_Now.J1 (ap : Option Addr) (ao : Nat) (aq : Nat) (ak : Int) (I0 : Nat → List Value → World → Prop) (av : Option Addr) (ax : Nat) (m8 : Nat) (R : Value → World → Prop) (a0 : World) : Prop :=
 av.elim False fun aw =>
 0 ≤ (ak : Int) ∧ (ak : Int) < (ax : Int) ∧
 ∃ (a7 : Int) (a1 : Int) (a6 : Int) (aa : Int) (a3 : Int), cellsAt a0 (aw.add (Int.toNat ak * 5)) [.int .i64 a7, .int .u64 a1, .int .i64 a6, .int .i64 aa, .int .i64 a3] 0 ∧
 thenW (a0.alloc (.cells #[.int .i64 0, .int .u64 0, .int .i64 0, .int .i64 0, .int .i64 0] 70)) fun ai =>
 canStore ai ((blk a0.heap.size).add 0) ∧
 thenW (ai.setCell ((blk a0.heap.size).add 0) (.int .i64 a7)) fun ag =>
 canStore ag ((blk a0.heap.size).add 1) ∧
 thenW (ag.setCell ((blk a0.heap.size).add 1) (.int .u64 a1)) fun aj =>
 canStore aj ((blk a0.heap.size).add 2) ∧
 thenW (aj.setCell ((blk a0.heap.size).add 2) (.int .i64 a6)) fun ac =>
 canStore ac ((blk a0.heap.size).add 3) ∧
 thenW (ac.setCell ((blk a0.heap.size).add 3) (.int .i64 aa)) fun ah =>
 canStore ah ((blk a0.heap.size).add 4) ∧
 thenW (ah.setCell ((blk a0.heap.size).add 4) (.int .i64 a3)) fun a9 =>
 ∃ (am : Int), a9.cell? ((blk a0.heap.size).add 3) = some (.int .i64 am) ∧
 bif am == (-1) then (
 ∃ (a8 : Int) (a2 : Int) (a5 : Int) (ab : Int) (a4 : Int), cellsAt a9 (blk a0.heap.size) [.int .i64 a8, .int .u64 a2, .int .i64 a5, .int .i64 ab, .int .i64 a4] 0 ∧
 thenW (a9.alloc (.cells #[.int .i64 a8, .int .u64 a2, .int .i64 a5, .int .i64 ab, .int .i64 a4] 70)) fun an =>
 ∃ (ad : Option Addr) (al : Nat) (af : Nat) (ae : World), (Builtin.append_ #[41, 41] 41 #[.slice ap ao aq, .slice (some (blk a9.heap.size)) 1 1]).run Try.prog an = .ok (.slice ad al af) ae ∧
 ∃ au, au < m8 ∧ I0 au [.slice ad al af, .int .i64 (IntKind.i64.wrap (ak + 1))] ae) else (
 ∃ ar, ar < m8 ∧ I0 ar [.slice ap ao aq, .int .i64 (IntKind.i64.wrap (ak + 1))] a9)

def members_Now.M (a4 : Option Addr) (a5 : Nat) (a6 : Nat) (a3 : Int) (R : Value → World → Prop) (w : World) : Prop :=
 thenW (w.alloc (.cells #[.slice a4 a5 a6, .int .i64 a3] 43)) fun aa =>
 ∃ (a9 : Option Addr) (a7 : Nat) (ab : Nat), aa.cell? ((blk w.heap.size).add 0) = some (.slice a9 a7 ab) ∧
 ∃ (I0 : Nat → List Value → World → Prop) (m7 : Nat), I0 m7 [.slice none 0 0, .int .i64 0] aa ∧ ∀ (m8 : Nat) (a8 : World) (a2 : Option Addr) (a0 : Nat) (a1 : Nat) (t6 : Int), I0 m8 [.slice a2 a0 a1, .int .i64 t6] a8 →
 bif decide (t6 < (a7 : Int)) then (
 members_Now.J1 a2 a0 a1 t6 I0 a9 a7 m8 R a8) else (
 R (.slice a2 a0 a1) a8)

theorem members_Now.eq (sL1a : Option Addr) (sL1n : Nat) (sL1c : Nat) (sEpoch2 : Int) (R : Value → World → Prop) (w : World) : mfunc Try.prog [(0, [6, 7], [(2, (.one .slice)), (8, (.one (.int .i64)))])] 29 [.agg #[.slice sL1a sL1n sL1c, .int .i64 sEpoch2]] R w = members_Now.M sL1a sL1n sL1c sEpoch2 R w := by kernel_rfl
theorem members_Now.ok (a1 : Option Addr) (a2 : Nat) (a3 : Nat) (a0 : Int) {R : Value → World → Prop} {w : World} (h : members_Now.M a1 a2 a3 a0 R w) : Calls Try.prog 29 #[.agg #[.slice a1 a2 a3, .int .i64 a0]] w fun e w' => ∃ v, e = .returned v ∧ R v w' :=
  mfunc_ok follows (H := [(0, [6, 7], [(2, (.one .slice)), (8, (.one (.int .i64)))])]) (args := [.agg #[.slice a1 a2 a3, .int .i64 a0]]) (by rw [members_Now.eq]; exact h)

def members_Now.N (ai : Option Addr) (a9 : Nat) (an : Nat) (ah : Int) (R : Value → World → Prop) (w : World) : Prop :=
 ∀ (am : World), Ext no w am →
 ∃ (I0 : Nat → List Value → World → Prop) (m7 : Nat), I0 m7 [.slice none 0 0, .int .i64 0] am ∧ ∀ (m8 : Nat) (aa : World) (a3 : Option Addr) (a2 : Nat) (a1 : Nat) (t6 : Int), I0 m8 [.slice a3 a2 a1, .int .i64 t6] aa →
 (t6 < (a9 : Int) →
 ∃ aj : Addr, ai = some aj ∧
 0 ≤ (t6 : Int) ∧ (t6 : Int) < (a9 : Int) ∧
 ∃ (a7 : Int) (a0 : Int) (a5 : Int) (a6 : Int) (a4 : Int), cellsAt aa (aj.add (Int.toNat t6 * 5)) [.int .i64 a7, .int .u64 a0, .int .i64 a5, .int .i64 a6, .int .i64 a4] 0 ∧
 (a6 = (-1) →
 ∀ (a8 : World) (ag : Nat), Ext no aa a8 → Blk a8 ag 70 [.int .i64 a7, .int .u64 a0, .int .i64 a5, .int .i64 a6, .int .i64 a4] → aa.heap.size ≤ ag → ag < a8.heap.size →
 ∃ (ac : Option Addr) (ab : Nat) (af : Nat) (ad : World), (Builtin.append_ #[41, 41] 41 #[.slice a3 a2 a1, .slice (some (blk ag)) 1 1]).run Try.prog a8 = .ok (.slice ac ab af) ad ∧
 (-9223372036854775808 : Int) ≤ (t6 + 1) ∧ (t6 + 1) < 9223372036854775808 ∧
 ∃ ak, ak < m8 ∧ I0 ak [.slice ac ab af, .int .i64 (t6 + 1)] ad) ∧
 (a6 ≠ (-1) →
 (-9223372036854775808 : Int) ≤ (t6 + 1) ∧ (t6 + 1) < 9223372036854775808 ∧
 ∀ (ae : World), Ext no aa ae →
 ∃ al, al < m8 ∧ I0 al [.slice a3 a2 a1, .int .i64 (t6 + 1)] ae)) ∧
 ((a9 : Int) ≤ t6 →
 R (.slice a3 a2 a1) aa)

theorem members_Now.up (a8 : Option Addr) (aa : Nat) (a9 : Nat) (a6 : Int) {R : Value → World → Prop} {w : World} (h : members_Now.N a8 aa a9 a6 R w) : members_Now.M a8 aa a9 a6 R w := by
  unfold members_Now.M
  unfold members_Now.N at h
  refine thenW_in fun bh e3 => ?_
  have bc := Blk.of_new e3
  have bj := ((Ext.refl no w)).size
  have bb := (Ext.refl no w).x_alloc e3
  refine ⟨a8, aa, a9, bc.celli 0 rfl rfl, ?_⟩
  have h := h bh bb
  obtain ⟨I0, m7, h0, h⟩ := h
  refine ⟨I0, m7, h0, fun m8 a7 af ae ac t6 hI => ?_⟩
  have h := h m8 a7 af ae ac t6 hI
  refine bif_fo (fun b0 => ?_) (fun b0 => ?_)
  ·have h := h.2 (Int.not_lt.1 (of_decide_eq_false b0))
   exact h
  have h := h.1 (of_decide_eq_true b0)
  unfold members_Now.J1
  obtain ⟨bi, ap, h⟩ := h
  refine elim_some ap ?_
  obtain ⟨ba, be, h⟩ := h
  refine ⟨ba, be, ?_⟩
  obtain ⟨a1, a0, a2, a5, a3, b2, h⟩ := h
  refine ⟨a1, a0, a2, a5, a3, b2, ?_⟩
  refine thenW_in fun bf b6 => ?_
  have a4 := Blk.of_new b6
  have ag := ((Ext.refl no a7)).size
  have ao := (Ext.refl no a7).x_alloc b6
  refine ⟨a4.cani 0 rfl rfl, thenW_in fun am b4 => ?_⟩
  have ax := ao.x_set (q := a7.heap.size) (i := 0) rfl (.inr ag) b4
  have a4 : Blk am a7.heap.size 70 [.int .i64 a1, .int .u64 0, .int .i64 0, .int .i64 0, .int .i64 0] := a4.seti 0 rfl b4
  refine ⟨a4.cani 1 rfl rfl, thenW_in fun b1 b9 => ?_⟩
  have b3 := ax.x_set (q := a7.heap.size) (i := 1) rfl (.inr ag) b9
  have a4 : Blk b1 a7.heap.size 70 [.int .i64 a1, .int .u64 a0, .int .i64 0, .int .i64 0, .int .i64 0] := a4.seti 1 rfl b9
  refine ⟨a4.cani 2 rfl rfl, thenW_in fun au b7 => ?_⟩
  have ar := b3.x_set (q := a7.heap.size) (i := 2) rfl (.inr ag) b7
  have a4 : Blk au a7.heap.size 70 [.int .i64 a1, .int .u64 a0, .int .i64 a2, .int .i64 0, .int .i64 0] := a4.seti 2 rfl b7
  refine ⟨a4.cani 3 rfl rfl, thenW_in fun av b8 => ?_⟩
  have an := ar.x_set (q := a7.heap.size) (i := 3) rfl (.inr ag) b8
  have a4 : Blk av a7.heap.size 70 [.int .i64 a1, .int .u64 a0, .int .i64 a2, .int .i64 a5, .int .i64 0] := a4.seti 3 rfl b8
  refine ⟨a4.cani 4 rfl rfl, thenW_in fun ab b5 => ?_⟩
  have ad := an.x_set (q := a7.heap.size) (i := 4) rfl (.inr ag) b5
  have a4 : Blk ab a7.heap.size 70 [.int .i64 a1, .int .u64 a0, .int .i64 a2, .int .i64 a5, .int .i64 a3] := a4.seti 4 rfl b5
  refine ⟨a5, a4.celli 3 rfl rfl, ?_⟩
  refine bif_fo (fun aw => ?_) (fun aw => ?_)
  ·have h := h.2 (beq_f aw)
   obtain ⟨ak, aq, h⟩ := h
   try rw [w64 ak aq]
   have h := h ab ad
   obtain ⟨bg, hk, h⟩ := h
   exact ⟨bg, hk, h⟩
  have h := h.1 (beq_t aw)
  refine ⟨a1, a0, a2, a5, a3, ⟨a4.celli 0 rfl rfl, a4.celli 1 rfl rfl, a4.celli 2 rfl rfl, a4.celli 3 rfl rfl, a4.celli 4 rfl rfl, trivial⟩, ?_⟩
  refine thenW_in fun aj ay => ?_
  have h := h aj ab.heap.size (ad.x_alloc ay) (Blk.of_new ay) (ad).size (size_lt_alloc ay)
  obtain ⟨ai, ah, az, al, hr, h⟩ := h
  refine ⟨ai, ah, az, al, hr, ?_⟩
  obtain ⟨ak, aq, h⟩ := h
  try rw [w64 ak aq]
  obtain ⟨bd, hk, h⟩ := h
  exact ⟨bd, hk, h⟩

theorem members_Now.go (a1 : Option Addr) (a2 : Nat) (a3 : Nat) (a0 : Int) {R : Value → World → Prop} {w : World} (h : members_Now.N a1 a2 a3 a0 R w) : Calls Try.prog 29 #[.agg #[.slice a1 a2 a3, .int .i64 a0]] w fun e w' => ∃ v, e = .returned v ∧ R v w' := members_Now.ok a1 a2 a3 a0 (members_Now.up a1 a2 a3 a0 h)
def slices_BinarySearchFunc_members_Member_members_Member_int.M (ap : Option Addr) (al : Nat) (ax : Nat) (a2 : Int) (a5 : Nat) (ab : Array Value) (ac : Array Value) (R : Value → World → Prop) (w : World) : Prop :=
 ∃ (I0 : Nat → List Value → World → Prop) (m6 : Nat), I0 m6 [.int .i64 0, .int .i64 (al : Int)] w ∧ ∀ (m7 : Nat) (af : World) (i4 : Int) (j5 : Int), I0 m7 [.int .i64 i4, .int .i64 j5] af →
 bif decide (i4 < j5) then (
 0 ≤ (1 : Int) ∧
 ap.elim False fun a9 =>
 0 ≤ ((IntKind.i64.wrap (Int.fdiv (IntKind.u64.wrap (IntKind.i64.wrap (i4 + j5))) (2 ^ (min (Int.toNat 1) (IntKind.bits .u64))))) : Int) ∧ ((IntKind.i64.wrap (Int.fdiv (IntKind.u64.wrap (IntKind.i64.wrap (i4 + j5))) (2 ^ (min (Int.toNat 1) (IntKind.bits .u64))))) : Int) < (al : Int) ∧
 ∃ (a8 : Int) (a0 : Int) (a7 : Int) (ae : Int) (a4 : Int), cellsAt af (a9.add (Int.toNat (IntKind.i64.wrap (Int.fdiv (IntKind.u64.wrap (IntKind.i64.wrap (i4 + j5))) (2 ^ (min (Int.toNat 1) (IntKind.bits .u64))))) * 5)) [.int .i64 a8, .int .u64 a0, .int .i64 a7, .int .i64 ae, .int .i64 a4] 0 ∧
 bif enters Try.prog a5 then Calls Try.prog a5 (ab.toList ++ ([.agg #[.int .i64 a8, .int .u64 a0, .int .i64 a7, .int .i64 ae, .int .i64 a4], .int .i64 a2] : List Value) ++ ac.toList).toArray af (fun am ah => ∃ (ak : Int), am = .returned (.int .i64 ak) ∧
 bif decide (ak < 0) then (
 ∃ av, av < m7 ∧ I0 av [.int .i64 (IntKind.i64.wrap ((IntKind.i64.wrap (Int.fdiv (IntKind.u64.wrap (IntKind.i64.wrap (i4 + j5))) (2 ^ (min (Int.toNat 1) (IntKind.bits .u64))))) + 1)), .int .i64 j5] ah) else (
 ∃ au, au < m7 ∧ I0 au [.int .i64 i4, .int .i64 (IntKind.i64.wrap (Int.fdiv (IntKind.u64.wrap (IntKind.i64.wrap (i4 + j5))) (2 ^ (min (Int.toNat 1) (IntKind.bits .u64)))))] ah)) else (∃ (ak : Int) (ag : World), (externCall a5 (ab.toList ++ ([.agg #[.int .i64 a8, .int .u64 a0, .int .i64 a7, .int .i64 ae, .int .i64 a4], .int .i64 a2] : List Value) ++ ac.toList).toArray).run Try.prog af = .ok (.int .i64 ak) ag ∧
 bif decide (ak < 0) then (
 ∃ aq, aq < m7 ∧ I0 aq [.int .i64 (IntKind.i64.wrap ((IntKind.i64.wrap (Int.fdiv (IntKind.u64.wrap (IntKind.i64.wrap (i4 + j5))) (2 ^ (min (Int.toNat 1) (IntKind.bits .u64))))) + 1)), .int .i64 j5] ag) else (
 ∃ ar, ar < m7 ∧ I0 ar [.int .i64 i4, .int .i64 (IntKind.i64.wrap (Int.fdiv (IntKind.u64.wrap (IntKind.i64.wrap (i4 + j5))) (2 ^ (min (Int.toNat 1) (IntKind.bits .u64)))))] ag))) else (
 bif decide (i4 < (al : Int)) then (
 ap.elim False fun aw =>
 0 ≤ (i4 : Int) ∧ (i4 : Int) < (al : Int) ∧
 ∃ (aa : Int) (a1 : Int) (a6 : Int) (ad : Int) (a3 : Int), cellsAt af (aw.add (Int.toNat i4 * 5)) [.int .i64 aa, .int .u64 a1, .int .i64 a6, .int .i64 ad, .int .i64 a3] 0 ∧
 bif enters Try.prog a5 then Calls Try.prog a5 (ab.toList ++ ([.agg #[.int .i64 aa, .int .u64 a1, .int .i64 a6, .int .i64 ad, .int .i64 a3], .int .i64 a2] : List Value) ++ ac.toList).toArray af (fun an ao => ∃ (ai : Int), an = .returned (.int .i64 ai) ∧
 R (.tuple #[.int .i64 i4, .bool (ai == 0)]) ao) else (∃ (ai : Int) (aj : World), (externCall a5 (ab.toList ++ ([.agg #[.int .i64 aa, .int .u64 a1, .int .i64 a6, .int .i64 ad, .int .i64 a3], .int .i64 a2] : List Value) ++ ac.toList).toArray).run Try.prog af = .ok (.int .i64 ai) aj ∧
 R (.tuple #[.int .i64 i4, .bool (ai == 0)]) aj)) else (
 R (.tuple #[.int .i64 i4, .bool false]) af))

theorem slices_BinarySearchFunc_members_Member_members_Member_int.eq (x1a : Option Addr) (x1n : Nat) (x1c : Nat) (target2 : Int) (cmp3k : Nat) (cmp3f : Array Value) (cmp3g : Array Value) (R : Value → World → Prop) (w : World) : mfunc Try.prog [(0, [0, 1, 2, 8], [(9, (.one (.int .i64))), (10, (.one (.int .i64)))])] 73 [.slice x1a x1n x1c, .int .i64 target2, .func (.func cmp3k) cmp3f cmp3g] R w = slices_BinarySearchFunc_members_Member_members_Member_int.M x1a x1n x1c target2 cmp3k cmp3f cmp3g R w := by kernel_rfl
theorem slices_BinarySearchFunc_members_Member_members_Member_int.ok (a4 : Option Addr) (a5 : Nat) (a6 : Nat) (a0 : Int) (a1 : Nat) (a3 : Array Value) (a2 : Array Value) {R : Value → World → Prop} {w : World} (h : slices_BinarySearchFunc_members_Member_members_Member_int.M a4 a5 a6 a0 a1 a3 a2 R w) : Calls Try.prog 73 #[.slice a4 a5 a6, .int .i64 a0, .func (.func a1) a3 a2] w fun e w' => ∃ v, e = .returned v ∧ R v w' :=
  mfunc_ok follows (H := [(0, [0, 1, 2, 8], [(9, (.one (.int .i64))), (10, (.one (.int .i64)))])]) (args := [.slice a4 a5 a6, .int .i64 a0, .func (.func a1) a3 a2]) (by rw [slices_BinarySearchFunc_members_Member_members_Member_int.eq]; exact h)

def slices_BinarySearchFunc_members_Member_members_Member_int.N (al : Option Addr) (ag : Nat) (ar : Nat) (a6 : Int) (a5 : Nat) (aa : Array Value) (ab : Array Value) (R : Value → World → Prop) (w : World) : Prop :=
 ∃ (I0 : Nat → List Value → World → Prop) (m6 : Nat), I0 m6 [.int .i64 0, .int .i64 (ag : Int)] w ∧ ∀ (m7 : Nat) (ae : World) (i4 : Int) (j5 : Int), I0 m7 [.int .i64 i4, .int .i64 j5] ae →
 (i4 < j5 →
 (-9223372036854775808 : Int) ≤ (i4 + j5) ∧ (i4 + j5) < 9223372036854775808 ∧
 (-9223372036854775808 : Int) ≤ ((IntKind.u64.wrap (i4 + j5)) / 2) ∧ ((IntKind.u64.wrap (i4 + j5)) / 2) < 9223372036854775808 ∧
 ∃ aq : Addr, al = some aq ∧
 0 ≤ (((IntKind.u64.wrap (i4 + j5)) / 2) : Int) ∧ (((IntKind.u64.wrap (i4 + j5)) / 2) : Int) < (ag : Int) ∧
 ∃ (a9 : Int) (a1 : Int) (a7 : Int) (ad : Int) (a2 : Int), cellsAt ae (aq.add (Int.toNat ((IntKind.u64.wrap (i4 + j5)) / 2) * 5)) [.int .i64 a9, .int .u64 a1, .int .i64 a7, .int .i64 ad, .int .i64 a2] 0 ∧
 enters Try.prog a5 = true ∧ Calls Try.prog a5 (aa.toList ++ ([.agg #[.int .i64 a9, .int .u64 a1, .int .i64 a7, .int .i64 ad, .int .i64 a2], .int .i64 a6] : List Value) ++ ab.toList).toArray ae (fun ah af => ∃ (ak : Int), ah = .returned (.int .i64 ak) ∧
 (ak < 0 →
 (-9223372036854775808 : Int) ≤ (((IntKind.u64.wrap (i4 + j5)) / 2) + 1) ∧ (((IntKind.u64.wrap (i4 + j5)) / 2) + 1) < 9223372036854775808 ∧
 ∃ an, an < m7 ∧ I0 an [.int .i64 (((IntKind.u64.wrap (i4 + j5)) / 2) + 1), .int .i64 j5] af) ∧
 ((0 : Int) ≤ ak →
 ∃ ao, ao < m7 ∧ I0 ao [.int .i64 i4, .int .i64 ((IntKind.u64.wrap (i4 + j5)) / 2)] af))) ∧
 (j5 ≤ i4 →
 (i4 < (ag : Int) →
 ∃ ap : Addr, al = some ap ∧
 0 ≤ (i4 : Int) ∧ (i4 : Int) < (ag : Int) ∧
 ∃ (a8 : Int) (a0 : Int) (a4 : Int) (ac : Int) (a3 : Int), cellsAt ae (ap.add (Int.toNat i4 * 5)) [.int .i64 a8, .int .u64 a0, .int .i64 a4, .int .i64 ac, .int .i64 a3] 0 ∧
 enters Try.prog a5 = true ∧ Calls Try.prog a5 (aa.toList ++ ([.agg #[.int .i64 a8, .int .u64 a0, .int .i64 a4, .int .i64 ac, .int .i64 a3], .int .i64 a6] : List Value) ++ ab.toList).toArray ae (fun aj ai => ∃ (am : Int), aj = .returned (.int .i64 am) ∧
 R (.tuple #[.int .i64 i4, .bool (am == 0)]) ai)) ∧
 ((ag : Int) ≤ i4 →
 R (.tuple #[.int .i64 i4, .bool false]) ae))

theorem slices_BinarySearchFunc_members_Member_members_Member_int.up (ao : Option Addr) (aq : Nat) (ap : Nat) (a0 : Int) (a7 : Nat) (a8 : Array Value) (a9 : Array Value) {R : Value → World → Prop} {w : World} (h : slices_BinarySearchFunc_members_Member_members_Member_int.N ao aq ap a0 a7 a8 a9 R w) : slices_BinarySearchFunc_members_Member_members_Member_int.M ao aq ap a0 a7 a8 a9 R w := by
  unfold slices_BinarySearchFunc_members_Member_members_Member_int.M
  unfold slices_BinarySearchFunc_members_Member_members_Member_int.N at h
  obtain ⟨I0, m6, h0, h⟩ := h
  refine ⟨I0, m6, h0, fun m7 au i4 j5 hI => ?_⟩
  have h := h m7 au i4 j5 hI
  refine bif_fo (fun c9 => ?_) (fun c9 => ?_)
  ·have h := h.2 (Int.not_lt.1 (of_decide_eq_false c9))
   refine bif_fo (fun ag => ?_) (fun ag => ?_)
   ·have h := h.2 (Int.not_lt.1 (of_decide_eq_false ag))
    exact h
   have h := h.1 (of_decide_eq_true ag)
   obtain ⟨b3, ai, h⟩ := h
   refine elim_some ai ?_
   obtain ⟨ah, ak, h⟩ := h
   refine ⟨ah, ak, ?_⟩
   obtain ⟨aa, a1, a5, ae, a4, an, h⟩ := h
   refine ⟨aa, a1, a5, ae, a4, an, ?_⟩
   obtain ⟨hen, h⟩ := h
   refine bif_tt hen ?_
   refine h.mono fun ay aw h => ?_
   obtain ⟨ar, he, h⟩ := h
   refine ⟨ar, he, ?_⟩
   exact h
  have h := h.1 (of_decide_eq_true c9)
  obtain ⟨ac, ad, h⟩ := h
  try rw [w64 ac ad]
  refine ⟨by decide, ?_⟩
  try rw [show (2 ^ (min (Int.toNat 1) (IntKind.bits .u64)) : Int) = 2 from rfl]
  try rw [Int.fdiv_eq_ediv_of_nonneg (IntKind.u64.wrap (i4 + j5)) (by decide : (0 : Int) ≤ 2)]
  obtain ⟨ac, ad, h⟩ := h
  try rw [w64 ac ad]
  obtain ⟨b2, al, h⟩ := h
  refine elim_some al ?_
  obtain ⟨ah, ak, h⟩ := h
  refine ⟨ah, ak, ?_⟩
  obtain ⟨ab, a2, a6, af, a3, aj, h⟩ := h
  refine ⟨ab, a2, a6, af, a3, aj, ?_⟩
  obtain ⟨hen, h⟩ := h
  refine bif_tt hen ?_
  refine h.mono fun av b0 h => ?_
  obtain ⟨b1, he, h⟩ := h
  refine ⟨b1, he, ?_⟩
  refine bif_fo (fun am => ?_) (fun am => ?_)
  ·have h := h.2 (Int.not_lt.1 (of_decide_eq_false am))
   obtain ⟨az, hk, h⟩ := h
   exact ⟨az, hk, h⟩
  have h := h.1 (of_decide_eq_true am)
  obtain ⟨ac, ad, h⟩ := h
  try rw [w64 ac ad]
  obtain ⟨ax, hk, h⟩ := h
  exact ⟨ax, hk, h⟩

theorem slices_BinarySearchFunc_members_Member_members_Member_int.go (a4 : Option Addr) (a5 : Nat) (a6 : Nat) (a0 : Int) (a1 : Nat) (a3 : Array Value) (a2 : Array Value) {R : Value → World → Prop} {w : World} (h : slices_BinarySearchFunc_members_Member_members_Member_int.N a4 a5 a6 a0 a1 a3 a2 R w) : Calls Try.prog 73 #[.slice a4 a5 a6, .int .i64 a0, .func (.func a1) a3 a2] w fun e w' => ∃ v, e = .returned v ∧ R v w' := slices_BinarySearchFunc_members_Member_members_Member_int.ok a4 a5 a6 a0 a1 a3 a2 (slices_BinarySearchFunc_members_Member_members_Member_int.up a4 a5 a6 a0 a1 a3 a2 h)
theorem slices_BinarySearchFunc_members_Member_members_Member_int.run (a4 : Option Addr) (a5 : Nat) (a6 : Nat) (a0 : Int) (a1 : Nat) (a3 : Array Value) (a2 : Array Value) {V : Value} {Q : World → Prop} {w : World} (h : slices_BinarySearchFunc_members_Member_members_Member_int.N a4 a5 a6 a0 a1 a3 a2 (fun v w' => v = V ∧ Q w') w) : Calls Try.prog 73 #[.slice a4 a5 a6, .int .i64 a0, .func (.func a1) a3 a2] w (Ret V Q) := (slices_BinarySearchFunc_members_Member_members_Member_int.go a4 a5 a6 a0 a1 a3 a2 h).mono fun e w' ⟨v, he, hv, hq⟩ => ⟨by rw [he, hv], hq⟩

abbrev slices_EqualFunc_members_Member_members_Wrap_members_Member_members_Wrap.J1 (ak : Int) (I0 : Nat → List Value → World → Prop) (b6 : Option Addr) (b9 : Nat) (b5 : Option Addr) (b7 : Nat) (az : Nat) (b2 : Array Value) (b3 : Array Value) (b0 : Nat) (R : Value → World → Prop) (a0 : World) : Prop :=
 b6.elim False fun b8 =>
 0 ≤ (ak : Int) ∧ (ak : Int) < (b9 : Int) ∧
 ∃ (ac : Int) (a3 : Int) (a9 : Int) (aj : Int) (a5 : Int), cellsAt a0 (b8.add (Int.toNat ak * 5)) [.int .i64 ac, .int .u64 a3, .int .i64 a9, .int .i64 aj, .int .i64 a5] 0 ∧
 thenW (a0.alloc (.cells #[.int .i64 0, .int .u64 0, .int .i64 0, .int .i64 0, .int .i64 0] 70)) fun ar =>
 canStore ar ((blk a0.heap.size).add 0) ∧
 thenW (ar.setCell ((blk a0.heap.size).add 0) (.int .i64 ac)) fun av =>
 canStore av ((blk a0.heap.size).add 1) ∧
 thenW (av.setCell ((blk a0.heap.size).add 1) (.int .u64 a3)) fun aq =>
 canStore aq ((blk a0.heap.size).add 2) ∧
 thenW (aq.setCell ((blk a0.heap.size).add 2) (.int .i64 a9)) fun an =>
 canStore an ((blk a0.heap.size).add 3) ∧
 thenW (an.setCell ((blk a0.heap.size).add 3) (.int .i64 aj)) fun ao =>
 canStore ao ((blk a0.heap.size).add 4) ∧
 thenW (ao.setCell ((blk a0.heap.size).add 4) (.int .i64 a5)) fun a6 =>
 b5.elim False fun ba =>
 0 ≤ (ak : Int) ∧ (ak : Int) < (b7 : Int) ∧
 ∃ (af : Int) (ah : Option Addr) (al : Nat) (ai : Nat), cellsAt a6 (ba.add (Int.toNat ak * 2)) [.int .i64 af, .slice ah al ai] 0 ∧
 thenW (a6.alloc (.cells #[.int .i64 0, .slice none 0 0] 60)) fun ap =>
 canStore ap ((blk a6.heap.size).add 0) ∧
 thenW (ap.setCell ((blk a6.heap.size).add 0) (.int .i64 af)) fun ax =>
 canStore ax ((blk a6.heap.size).add 1) ∧
 thenW (ax.setCell ((blk a6.heap.size).add 1) (.slice ah al ai)) fun ag =>
 ∃ (a7 : Int) (a1 : Int) (a4 : Int) (ad : Int) (a2 : Int), cellsAt ag (blk a0.heap.size) [.int .i64 a7, .int .u64 a1, .int .i64 a4, .int .i64 ad, .int .i64 a2] 0 ∧
 ∃ (a8 : Int) (ae : Option Addr) (ab : Nat) (aa : Nat), cellsAt ag (blk a6.heap.size) [.int .i64 a8, .slice ae ab aa] 0 ∧
 bif enters Try.prog az then Calls Try.prog az (b2.toList ++ ([.agg #[.int .i64 a7, .int .u64 a1, .int .i64 a4, .int .i64 ad, .int .i64 a2], .agg #[.int .i64 a8, .slice ae ab aa]] : List Value) ++ b3.toList).toArray ag (fun ay aw => ∃ (au : Bool), ay = .returned (.bool au) ∧
 bif !au then (
 R (.bool false) aw) else (
 ∃ b1, b1 < b0 ∧ I0 b1 [.int .i64 (IntKind.i64.wrap (ak + 1))] aw)) else (∃ (au : Bool) (am : World), (externCall az (b2.toList ++ ([.agg #[.int .i64 a7, .int .u64 a1, .int .i64 a4, .int .i64 ad, .int .i64 a2], .agg #[.int .i64 a8, .slice ae ab aa]] : List Value) ++ b3.toList).toArray).run Try.prog ag = .ok (.bool au) am ∧
 bif !au then (
 R (.bool false) am) else (
 ∃ b4, b4 < b0 ∧ I0 b4 [.int .i64 (IntKind.i64.wrap (ak + 1))] am))

abbrev slices_EqualFunc_members_Member_members_Wrap_members_Member_members_Wrap.J2 (aa : Option Addr) (a3 : Nat) (a6 : Option Addr) (ab : Nat) (a9 : Nat) (a5 : Array Value) (a7 : Array Value) (R : Value → World → Prop) (a2 : World) : Prop :=
 ∃ (I0 : Nat → List Value → World → Prop) (a8 : Nat), I0 a8 [.int .i64 0] a2 ∧ ∀ (a4 : Nat) (a0 : World) (a1 : Int), I0 a4 [.int .i64 a1] a0 →
 bif decide (a1 < (a3 : Int)) then (
 slices_EqualFunc_members_Member_members_Wrap_members_Member_members_Wrap.J1 a1 I0 aa a3 a6 ab a9 a5 a7 a4 R a0) else (
 R (.bool true) a0)

def slices_EqualFunc_members_Member_members_Wrap_members_Member_members_Wrap.M (a5 : Option Addr) (a3 : Nat) (a7 : Nat) (a6 : Option Addr) (a4 : Nat) (a8 : Nat) (a0 : Nat) (a2 : Array Value) (a1 : Array Value) (R : Value → World → Prop) (w : World) : Prop :=
 bif (a3 : Int) != (a4 : Int) then (
 R (.bool false) w) else (
 slices_EqualFunc_members_Member_members_Wrap_members_Member_members_Wrap.J2 a5 a3 a6 a4 a0 a2 a1 R w)

theorem slices_EqualFunc_members_Member_members_Wrap_members_Member_members_Wrap.eq (s1a : Option Addr) (s1n : Nat) (s1c : Nat) (s2a : Option Addr) (s2n : Nat) (s2c : Nat) (eq3k : Nat) (eq3f : Array Value) (eq3g : Array Value) (R : Value → World → Prop) (w : World) : mfunc Try.prog [(0, [1, 2, 15, 16], [(17, (.one (.int .i64)))])] 65 [.slice s1a s1n s1c, .slice s2a s2n s2c, .func (.func eq3k) eq3f eq3g] R w = slices_EqualFunc_members_Member_members_Wrap_members_Member_members_Wrap.M s1a s1n s1c s2a s2n s2c eq3k eq3f eq3g R w := by kernel_rfl
theorem slices_EqualFunc_members_Member_members_Wrap_members_Member_members_Wrap.ok (a3 : Option Addr) (a4 : Nat) (a7 : Nat) (a6 : Option Addr) (a5 : Nat) (a8 : Nat) (a0 : Nat) (a2 : Array Value) (a1 : Array Value) {R : Value → World → Prop} {w : World} (h : slices_EqualFunc_members_Member_members_Wrap_members_Member_members_Wrap.M a3 a4 a7 a6 a5 a8 a0 a2 a1 R w) : Calls Try.prog 65 #[.slice a3 a4 a7, .slice a6 a5 a8, .func (.func a0) a2 a1] w fun e w' => ∃ v, e = .returned v ∧ R v w' :=
  mfunc_ok follows (H := [(0, [1, 2, 15, 16], [(17, (.one (.int .i64)))])]) (args := [.slice a3 a4 a7, .slice a6 a5 a8, .func (.func a0) a2 a1]) (by rw [slices_EqualFunc_members_Member_members_Wrap_members_Member_members_Wrap.eq]; exact h)

def slices_EqualFunc_members_Member_members_Wrap_members_Member_members_Wrap.N (an : Option Addr) (a9 : Nat) (ao : Nat) (am : Option Addr) (ae : Nat) (ap : Nat) (ad : Nat) (ag : Array Value) (ai : Array Value) (R : Value → World → Prop) (w : World) : Prop :=
 ((a9 : Int) ≠ (ae : Int) →
 R (.bool false) w) ∧
 ((a9 : Int) = (ae : Int) →
 ∃ (I0 : Nat → List Value → World → Prop) (m6 : Nat), I0 m6 [.int .i64 0] w ∧ ∀ (m7 : Nat) (aa : World) (t5 : Int), I0 m7 [.int .i64 t5] aa →
 (t5 < (a9 : Int) →
 ∃ ak : Addr, an = some ak ∧
 0 ≤ (t5 : Int) ∧ (t5 : Int) < (a9 : Int) ∧
 ∃ (a4 : Int) (a0 : Int) (a2 : Int) (a8 : Int) (a1 : Int), cellsAt aa (ak.add (Int.toNat t5 * 5)) [.int .i64 a4, .int .u64 a0, .int .i64 a2, .int .i64 a8, .int .i64 a1] 0 ∧
 ∃ al : Addr, am = some al ∧
 0 ≤ (t5 : Int) ∧ (t5 : Int) < (ae : Int) ∧
 ∃ (a3 : Int) (a5 : Option Addr) (a6 : Nat) (a7 : Nat), cellsAt aa (al.add (Int.toNat t5 * 2)) [.int .i64 a3, .slice a5 a6 a7] 0 ∧
 ∀ (ab : World), Ext no aa ab →
 enters Try.prog ad = true ∧ Calls Try.prog ad (ag.toList ++ ([.agg #[.int .i64 a4, .int .u64 a0, .int .i64 a2, .int .i64 a8, .int .i64 a1], .agg #[.int .i64 a3, .slice a5 a6 a7]] : List Value) ++ ai.toList).toArray ab (fun ah ac => ∃ (af : Bool), ah = .returned (.bool af) ∧
 (af = false →
 R (.bool false) ac) ∧
 (af = true →
 (-9223372036854775808 : Int) ≤ (t5 + 1) ∧ (t5 + 1) < 9223372036854775808 ∧
 ∃ aj, aj < m7 ∧ I0 aj [.int .i64 (t5 + 1)] ac))) ∧
 ((a9 : Int) ≤ t5 →
 R (.bool true) aa))

theorem slices_EqualFunc_members_Member_members_Wrap_members_Member_members_Wrap.up (bd : Option Addr) (b8 : Nat) (bh : Nat) (bb : Option Addr) (ba : Nat) (bk : Nat) (ag : Nat) (af : Array Value) (ai : Array Value) {R : Value → World → Prop} {w : World} (h : slices_EqualFunc_members_Member_members_Wrap_members_Member_members_Wrap.N bd b8 bh bb ba bk ag af ai R w) : slices_EqualFunc_members_Member_members_Wrap_members_Member_members_Wrap.M bd b8 bh bb ba bk ag af ai R w := by
  unfold slices_EqualFunc_members_Member_members_Wrap_members_Member_members_Wrap.M
  unfold slices_EqualFunc_members_Member_members_Wrap_members_Member_members_Wrap.N at h
  refine bif_of (fun c4 => ?_) (fun c4 => ?_)
  ·have h := h.1 (bne_t c4)
   exact h
  have h := h.2 (bne_f c4)
  unfold slices_EqualFunc_members_Member_members_Wrap_members_Member_members_Wrap.J2
  obtain ⟨I0, m6, h0, h⟩ := h
  refine ⟨I0, m6, h0, fun m7 a6 t5 hI => ?_⟩
  have h := h m7 a6 t5 hI
  refine bif_fo (fun c9 => ?_) (fun c9 => ?_)
  ·have h := h.2 (Int.not_lt.1 (of_decide_eq_false c9))
   exact h
  have h := h.1 (of_decide_eq_true c9)
  unfold slices_EqualFunc_members_Member_members_Wrap_members_Member_members_Wrap.J1
  obtain ⟨bu, ay, h⟩ := h
  refine elim_some ay ?_
  obtain ⟨aj, ax, h⟩ := h
  refine ⟨aj, ax, ?_⟩
  obtain ⟨a1, a0, a2, a5, a4, ao, h⟩ := h
  refine ⟨a1, a0, a2, a5, a4, ao, ?_⟩
  refine thenW_in fun br bi => ?_
  have a3 := Blk.of_new bi
  have ah := ((Ext.refl no a6)).size
  have av := (Ext.refl no a6).x_alloc bi
  refine ⟨a3.cani 0 rfl rfl, thenW_in fun b0 bc => ?_⟩
  have ar := av.x_set (q := a6.heap.size) (i := 0) rfl (.inr ah) bc
  have a3 : Blk b0 a6.heap.size 70 [.int .i64 a1, .int .u64 0, .int .i64 0, .int .i64 0, .int .i64 0] := a3.seti 0 rfl bc
  refine ⟨a3.cani 1 rfl rfl, thenW_in fun ap b9 => ?_⟩
  have b1 := ar.x_set (q := a6.heap.size) (i := 1) rfl (.inr ah) b9
  have a3 : Blk ap a6.heap.size 70 [.int .i64 a1, .int .u64 a0, .int .i64 0, .int .i64 0, .int .i64 0] := a3.seti 1 rfl b9
  refine ⟨a3.cani 2 rfl rfl, thenW_in fun b4 bg => ?_⟩
  have b7 := b1.x_set (q := a6.heap.size) (i := 2) rfl (.inr ah) bg
  have a3 : Blk b4 a6.heap.size 70 [.int .i64 a1, .int .u64 a0, .int .i64 a2, .int .i64 0, .int .i64 0] := a3.seti 2 rfl bg
  refine ⟨a3.cani 3 rfl rfl, thenW_in fun az be => ?_⟩
  have aw := b7.x_set (q := a6.heap.size) (i := 3) rfl (.inr ah) be
  have a3 : Blk az a6.heap.size 70 [.int .i64 a1, .int .u64 a0, .int .i64 a2, .int .i64 a5, .int .i64 0] := a3.seti 3 rfl be
  refine ⟨a3.cani 4 rfl rfl, thenW_in fun a8 bf => ?_⟩
  have ae := aw.x_set (q := a6.heap.size) (i := 4) rfl (.inr ah) bf
  have a3 : Blk a8 a6.heap.size 70 [.int .i64 a1, .int .u64 a0, .int .i64 a2, .int .i64 a5, .int .i64 a4] := a3.seti 4 rfl bf
  obtain ⟨bv, b5, h⟩ := h
  refine elim_some b5 ?_
  obtain ⟨aj, ax, h⟩ := h
  refine ⟨aj, ax, ?_⟩
  obtain ⟨a7, aa, ac, ad, au, h⟩ := h
  refine ⟨a7, aa, ac, ad, cellsAt_no (ae) au, ?_⟩
  refine thenW_in fun bs b6 => ?_
  have ab := Blk.of_new b6
  have bj := (ae).size
  have a9 := Nat.ne_of_lt a3.lt
  have a3 := a3.x_alloc b6
  have am := ae.x_alloc b6
  refine ⟨ab.cani 0 rfl rfl, thenW_in fun bl ak => ?_⟩
  have aq := am.x_set (q := a8.heap.size) (i := 0) rfl (.inr bj) ak
  have a3 := a3.oth (q := a8.heap.size) (i := 0) rfl a9 ak
  have ab := ab.seti 0 rfl ak
  refine ⟨ab.cani 1 rfl rfl, thenW_in fun an b3 => ?_⟩
  have al := aq.x_set (q := a8.heap.size) (i := 1) rfl (.inr bj) b3
  have a3 := a3.oth (q := a8.heap.size) (i := 1) rfl a9 b3
  have ab := ab.seti 1 rfl b3
  refine ⟨a1, a0, a2, a5, a4, ⟨a3.celli 0 rfl rfl, a3.celli 1 rfl rfl, a3.celli 2 rfl rfl, a3.celli 3 rfl rfl, a3.celli 4 rfl rfl, trivial⟩, ?_⟩
  refine ⟨a7, aa, ac, ad, ⟨ab.celli 0 rfl rfl, ab.celli 1 rfl rfl, trivial⟩, ?_⟩
  have h := h an al
  obtain ⟨hen, h⟩ := h
  refine bif_tt hen ?_
  refine h.mono fun bt bq h => ?_
  obtain ⟨bn, he, h⟩ := h
  refine ⟨bn, he, ?_⟩
  refine bif_of (fun b2 => ?_) (fun b2 => ?_)
  ·have h := h.1 (not_t b2)
   exact h
  have h := h.2 (not_f b2)
  obtain ⟨bo, bp, h⟩ := h
  try rw [w64 bo bp]
  obtain ⟨bm, hk, h⟩ := h
  exact ⟨bm, hk, h⟩

theorem slices_EqualFunc_members_Member_members_Wrap_members_Member_members_Wrap.go (a3 : Option Addr) (a4 : Nat) (a7 : Nat) (a6 : Option Addr) (a5 : Nat) (a8 : Nat) (a0 : Nat) (a2 : Array Value) (a1 : Array Value) {R : Value → World → Prop} {w : World} (h : slices_EqualFunc_members_Member_members_Wrap_members_Member_members_Wrap.N a3 a4 a7 a6 a5 a8 a0 a2 a1 R w) : Calls Try.prog 65 #[.slice a3 a4 a7, .slice a6 a5 a8, .func (.func a0) a2 a1] w fun e w' => ∃ v, e = .returned v ∧ R v w' := slices_EqualFunc_members_Member_members_Wrap_members_Member_members_Wrap.ok a3 a4 a7 a6 a5 a8 a0 a2 a1 (slices_EqualFunc_members_Member_members_Wrap_members_Member_members_Wrap.up a3 a4 a7 a6 a5 a8 a0 a2 a1 h)
theorem slices_EqualFunc_members_Member_members_Wrap_members_Member_members_Wrap.run (a3 : Option Addr) (a4 : Nat) (a7 : Nat) (a6 : Option Addr) (a5 : Nat) (a8 : Nat) (a0 : Nat) (a2 : Array Value) (a1 : Array Value) {V : Value} {Q : World → Prop} {w : World} (h : slices_EqualFunc_members_Member_members_Wrap_members_Member_members_Wrap.N a3 a4 a7 a6 a5 a8 a0 a2 a1 (fun v w' => v = V ∧ Q w') w) : Calls Try.prog 65 #[.slice a3 a4 a7, .slice a6 a5 a8, .func (.func a0) a2 a1] w (Ret V Q) := (slices_EqualFunc_members_Member_members_Wrap_members_Member_members_Wrap.go a3 a4 a7 a6 a5 a8 a0 a2 a1 h).mono fun e w' ⟨v, he, hv, hq⟩ => ⟨by rw [he, hv], hq⟩

abbrev slices_Clone_members_Member_members_Member.J1 (j8 : Option Addr) (j9 : Nat) (a6 : Nat) (R : Value → World → Prop) (a3 : World) : Prop :=
 thenW (a3.alloc (.cells #[] 70)) fun a5 =>
 ∃ (a2 : Option Addr) (a1 : Nat) (a4 : Nat) (a0 : World), (Builtin.append_ #[41, 41] 41 #[.slice (some (blk a3.heap.size)) 0 0, .slice j8 j9 a6]).run Try.prog a5 = .ok (.slice a2 a1 a4) a0 ∧
 R (.slice a2 a1 a4) a0

def slices_Clone_members_Member_members_Member.M (a0 : Option Addr) (a2 : Nat) (a1 : Nat) (R : Value → World → Prop) (w : World) : Prop :=
 bif Option.isNone a0 then (
 R (.slice none 0 0) w) else (
 slices_Clone_members_Member_members_Member.J1 a0 a2 a1 R w)

theorem slices_Clone_members_Member_members_Member.eq (s1a : Option Addr) (s1n : Nat) (s1c : Nat) (R : Value → World → Prop) (w : World) : mfunc Try.prog [] 67 [.slice s1a s1n s1c] R w = slices_Clone_members_Member_members_Member.M s1a s1n s1c R w := by kernel_rfl
theorem slices_Clone_members_Member_members_Member.ok (a0 : Option Addr) (a2 : Nat) (a1 : Nat) {R : Value → World → Prop} {w : World} (h : slices_Clone_members_Member_members_Member.M a0 a2 a1 R w) : Calls Try.prog 67 #[.slice a0 a2 a1] w fun e w' => ∃ v, e = .returned v ∧ R v w' :=
  mfunc_ok follows (H := []) (args := [.slice a0 a2 a1]) (by rw [slices_Clone_members_Member_members_Member.eq]; exact h)

def slices_Clone_members_Member_members_Member.N (a1 : Option Addr) (a6 : Nat) (a7 : Nat) (R : Value → World → Prop) (w : World) : Prop :=
 (a1 = none →
 R (.slice none 0 0) w) ∧
 (a1 ≠ none →
 ∀ (a0 : World) (q4 : Nat), Ext no w a0 → Blk a0 q4 70 [] → w.heap.size ≤ q4 → q4 < a0.heap.size →
 ∃ (a4 : Option Addr) (a5 : Nat) (a2 : Nat) (a3 : World), (Builtin.append_ #[41, 41] 41 #[.slice (some (blk q4)) 0 0, .slice a1 a6 a7]).run Try.prog a0 = .ok (.slice a4 a5 a2) a3 ∧
 R (.slice a4 a5 a2) a3)

theorem slices_Clone_members_Member_members_Member.up (a0 : Option Addr) (a1 : Nat) (a2 : Nat) {R : Value → World → Prop} {w : World} (h : slices_Clone_members_Member_members_Member.N a0 a1 a2 R w) : slices_Clone_members_Member_members_Member.M a0 a1 a2 R w := by
  unfold slices_Clone_members_Member_members_Member.M
  unfold slices_Clone_members_Member_members_Member.N at h
  refine bif_of (fun c2 => ?_) (fun c2 => ?_)
  ·have h := h.1 (isNone_t c2)
   exact h
  have h := h.2 (isNone_f c2)
  unfold slices_Clone_members_Member_members_Member.J1
  refine thenW_in fun a6 e3 => ?_
  have h := h a6 w.heap.size ((Ext.refl no w).x_alloc e3) (Blk.of_new e3) ((Ext.refl no w)).size (size_lt_alloc e3)
  obtain ⟨a5, a7, a3, a4, hr, h⟩ := h
  refine ⟨a5, a7, a3, a4, hr, ?_⟩
  exact h

theorem slices_Clone_members_Member_members_Member.go (a0 : Option Addr) (a2 : Nat) (a1 : Nat) {R : Value → World → Prop} {w : World} (h : slices_Clone_members_Member_members_Member.N a0 a2 a1 R w) : Calls Try.prog 67 #[.slice a0 a2 a1] w fun e w' => ∃ v, e = .returned v ∧ R v w' := slices_Clone_members_Member_members_Member.ok a0 a2 a1 (slices_Clone_members_Member_members_Member.up a0 a2 a1 h)
abbrev slices_Insert_members_Member_members_Member.J1 (a2 : Option Addr) (a3 : Nat) (a4 : Nat) (a0 : Int) (a9 : Int) (a1 : Int) (ac : Option Addr) (aa : Nat) (ad : Nat) (R : Value → World → Prop) (a6 : World) : Prop :=
 (0 : Int) ≤ (a0 : Int) ∧ (a0 : Int) ≤ (a3 : Int) ∧
 ∃ (ab : Int) (a5 : World), (Builtin.copy_ #[41, 41] 3 #[.slice (if a4 = Int.toNat a0 then a2 else Option.map (fun z : Addr => z.add ((Int.toNat a0) * 5)) a2) (a3 - (Int.toNat a0)) (a4 - (Int.toNat a0)), .slice ac aa ad]).run Try.prog a6 = .ok (.int .i64 ab) a5 ∧
 (0 : Int) ≤ (a1 : Int) ∧ (a1 : Int) ≤ (a3 : Int) ∧
 Calls Try.prog 86 #[.slice (if a4 = Int.toNat a1 then a2 else Option.map (fun z : Addr => z.add ((Int.toNat a1) * 5)) a2) (a3 - (Int.toNat a1)) (a4 - (Int.toNat a1)), .int .i64 a9] a5 fun a8 a7 => a8 = .returned (.tuple #[]) ∧
 R (.slice a2 a3 a4) a7

abbrev slices_Insert_members_Member_members_Member.J2 (a5 : Int) (a4 : Int) (a2 : Option Addr) (a1 : Nat) (a0 : Int) (ab : Option Addr) (a9 : Nat) (aa : Nat) (R : Value → World → Prop) (ac : World) : Prop :=
 (0 : Int) ≤ ((IntKind.i64.wrap (a5 + a4)) : Int) ∧ ((IntKind.i64.wrap (a5 + a4)) : Int) ≤ (a1 : Int) ∧
 (0 : Int) ≤ ((IntKind.i64.wrap (a0 + a4)) : Int) ∧ ((IntKind.i64.wrap (a0 + a4)) : Int) ≤ (((Int.toNat (IntKind.i64.wrap (a5 + a4))) - 0 : Nat) : Int) ∧
 ∃ (a3 : Bool) (a6 : World), (externCall 85 #[.slice ab a9 aa, .slice (if a1 - 0 = Int.toNat (IntKind.i64.wrap (a0 + a4)) then if a1 = 0 then a2 else Option.map (fun z : Addr => z.add (0 * 5)) a2 else Option.map (fun z : Addr => z.add ((Int.toNat (IntKind.i64.wrap (a0 + a4))) * 5)) (if a1 = 0 then a2 else Option.map (fun z : Addr => z.add (0 * 5)) a2)) (((Int.toNat (IntKind.i64.wrap (a5 + a4))) - 0) - (Int.toNat (IntKind.i64.wrap (a0 + a4)))) ((a1 - 0) - (Int.toNat (IntKind.i64.wrap (a0 + a4))))]).run Try.prog ac = .ok (.bool a3) a6 ∧
 bif !a3 then (
 thenW (a6.drew) fun ad =>
 (0 : Int) ≤ ((IntKind.i64.wrap (a0 + a4)) : Int) ∧ ((IntKind.i64.wrap (a0 + a4)) : Int) ≤ (((Int.toNat (IntKind.i64.wrap (a5 + a4))) - 0 : Nat) : Int) ∧
 (0 : Int) ≤ (a0 : Int) ∧ (a0 : Int) ≤ (((Int.toNat (IntKind.i64.wrap (a5 + a4))) - 0 : Nat) : Int) ∧
 ∃ (ae : Int) (a7 : World), (Builtin.copy_ #[41, 41] 3 #[.slice (if a1 - 0 = Int.toNat (IntKind.i64.wrap (a0 + a4)) then if a1 = 0 then a2 else Option.map (fun z : Addr => z.add (0 * 5)) a2 else Option.map (fun z : Addr => z.add ((Int.toNat (IntKind.i64.wrap (a0 + a4))) * 5)) (if a1 = 0 then a2 else Option.map (fun z : Addr => z.add (0 * 5)) a2)) (((Int.toNat (IntKind.i64.wrap (a5 + a4))) - 0) - (Int.toNat (IntKind.i64.wrap (a0 + a4)))) ((a1 - 0) - (Int.toNat (IntKind.i64.wrap (a0 + a4)))), .slice (if a1 - 0 = Int.toNat a0 then if a1 = 0 then a2 else Option.map (fun z : Addr => z.add (0 * 5)) a2 else Option.map (fun z : Addr => z.add ((Int.toNat a0) * 5)) (if a1 = 0 then a2 else Option.map (fun z : Addr => z.add (0 * 5)) a2)) (((Int.toNat (IntKind.i64.wrap (a5 + a4))) - 0) - (Int.toNat a0)) ((a1 - 0) - (Int.toNat a0))]).run Try.prog ad = .ok (.int .i64 ae) a7 ∧
 (0 : Int) ≤ (a0 : Int) ∧ (a0 : Int) ≤ (((Int.toNat (IntKind.i64.wrap (a5 + a4))) - 0 : Nat) : Int) ∧
 ∃ (af : Int) (a8 : World), (Builtin.copy_ #[41, 41] 3 #[.slice (if a1 - 0 = Int.toNat a0 then if a1 = 0 then a2 else Option.map (fun z : Addr => z.add (0 * 5)) a2 else Option.map (fun z : Addr => z.add ((Int.toNat a0) * 5)) (if a1 = 0 then a2 else Option.map (fun z : Addr => z.add (0 * 5)) a2)) (((Int.toNat (IntKind.i64.wrap (a5 + a4))) - 0) - (Int.toNat a0)) ((a1 - 0) - (Int.toNat a0)), .slice ab a9 aa]).run Try.prog a7 = .ok (.int .i64 af) a8 ∧
 R (.slice (if a1 = 0 then a2 else Option.map (fun z : Addr => z.add (0 * 5)) a2) ((Int.toNat (IntKind.i64.wrap (a5 + a4))) - 0) (a1 - 0)) a8) else (
 slices_Insert_members_Member_members_Member.J1 (if a1 = 0 then a2 else Option.map (fun z : Addr => z.add (0 * 5)) a2) ((Int.toNat (IntKind.i64.wrap (a5 + a4))) - 0) (a1 - 0) a5 a4 a0 ab a9 aa R a6)

abbrev slices_Insert_members_Member_members_Member.J3 (ac : Int) (a4 : Int) (a9 : Option Addr) (af : Nat) (a5 : Nat) (a0 : Int) (ad : Option Addr) (ag : Nat) (ae : Nat) (R : Value → World → Prop) (a7 : World) : Prop :=
 bif decide ((IntKind.i64.wrap (ac + a4)) > (a5 : Int)) then (
 (0 : Int) ≤ (a0 : Int) ∧ (a0 : Int) ≤ (a5 : Int) ∧
 ∃ (a1 : Option Addr) (a2 : Nat) (a3 : Nat) (aa : World), (Builtin.append_ #[41, 3] 41 #[.slice (if a5 = 0 then a9 else Option.map (fun z : Addr => z.add (0 * 5)) a9) ((Int.toNat a0) - 0) (a5 - 0), .int .i64 (IntKind.i64.wrap ((IntKind.i64.wrap (ac + a4)) - a0))]).run Try.prog a7 = .ok (.slice a1 a2 a3) aa ∧
 (0 : Int) ≤ (a0 : Int) ∧ (a0 : Int) ≤ (a2 : Int) ∧
 ∃ (ai : Int) (a8 : World), (Builtin.copy_ #[41, 41] 3 #[.slice (if a3 = Int.toNat a0 then a1 else Option.map (fun z : Addr => z.add ((Int.toNat a0) * 5)) a1) (a2 - (Int.toNat a0)) (a3 - (Int.toNat a0)), .slice ad ag ae]).run Try.prog aa = .ok (.int .i64 ai) a8 ∧
 thenW (a8.drew) fun ab =>
 (0 : Int) ≤ ((IntKind.i64.wrap (a0 + a4)) : Int) ∧ ((IntKind.i64.wrap (a0 + a4)) : Int) ≤ (a2 : Int) ∧
 (0 : Int) ≤ (a0 : Int) ∧ (a0 : Int) ≤ (af : Int) ∧
 ∃ (ah : Int) (a6 : World), (Builtin.copy_ #[41, 41] 3 #[.slice (if a3 = Int.toNat (IntKind.i64.wrap (a0 + a4)) then a1 else Option.map (fun z : Addr => z.add ((Int.toNat (IntKind.i64.wrap (a0 + a4))) * 5)) a1) (a2 - (Int.toNat (IntKind.i64.wrap (a0 + a4)))) (a3 - (Int.toNat (IntKind.i64.wrap (a0 + a4)))), .slice (if a5 = Int.toNat a0 then a9 else Option.map (fun z : Addr => z.add ((Int.toNat a0) * 5)) a9) (af - (Int.toNat a0)) (a5 - (Int.toNat a0))]).run Try.prog ab = .ok (.int .i64 ah) a6 ∧
 R (.slice a1 a2 a3) a6) else (
 slices_Insert_members_Member_members_Member.J2 ac a4 a9 a5 a0 ad ag ae R a7)

abbrev slices_Insert_members_Member_members_Member.J4 (j6 : Int) (a7 : Option Addr) (a5 : Nat) (ab : Nat) (a6 : Int) (a9 : Option Addr) (aa : Nat) (a8 : Nat) (R : Value → World → Prop) (a4 : World) : Prop :=
 bif a6 == (a5 : Int) then (
 ∃ (a3 : Option Addr) (a2 : Nat) (a0 : Nat) (a1 : World), (Builtin.append_ #[41, 41] 41 #[.slice a7 a5 ab, .slice a9 aa a8]).run Try.prog a4 = .ok (.slice a3 a2 a0) a1 ∧
 R (.slice a3 a2 a0) a1) else (
 slices_Insert_members_Member_members_Member.J3 (a5 : Int) j6 a7 a5 ab a6 a9 aa a8 R a4)

def slices_Insert_members_Member_members_Member.M (a2 : Option Addr) (a1 : Nat) (a3 : Nat) (i2 : Int) (a4 : Option Addr) (a0 : Nat) (a5 : Nat) (R : Value → World → Prop) (w : World) : Prop :=
 (0 : Int) ≤ (i2 : Int) ∧ (i2 : Int) ≤ (a1 : Int) ∧
 bif (a0 : Int) == 0 then (
 R (.slice a2 a1 a3) w) else (
 slices_Insert_members_Member_members_Member.J4 (a0 : Int) a2 a1 a3 i2 a4 a0 a5 R w)

theorem slices_Insert_members_Member_members_Member.eq (s1a : Option Addr) (s1n : Nat) (s1c : Nat) (i2 : Int) (v3a : Option Addr) (v3n : Nat) (v3c : Nat) (R : Value → World → Prop) (w : World) : mfunc Try.prog [] 68 [.slice s1a s1n s1c, .int .i64 i2, .slice v3a v3n v3c] R w = slices_Insert_members_Member_members_Member.M s1a s1n s1c i2 v3a v3n v3c R w := by kernel_rfl
theorem slices_Insert_members_Member_members_Member.ok (a0 : Option Addr) (a2 : Nat) (a4 : Nat) (i2 : Int) (a3 : Option Addr) (a1 : Nat) (a5 : Nat) {R : Value → World → Prop} {w : World} (h : slices_Insert_members_Member_members_Member.M a0 a2 a4 i2 a3 a1 a5 R w) : Calls Try.prog 68 #[.slice a0 a2 a4, .int .i64 i2, .slice a3 a1 a5] w fun e w' => ∃ v, e = .returned v ∧ R v w' :=
  mfunc_ok follows (H := []) (args := [.slice a0 a2 a4, .int .i64 i2, .slice a3 a1 a5]) (by rw [slices_Insert_members_Member_members_Member.eq]; exact h)

def slices_Insert_members_Member_members_Member.N (a3 : Option Addr) (a1 : Nat) (a2 : Nat) (i2 : Int) (a8 : Option Addr) (a0 : Nat) (a9 : Nat) (R : Value → World → Prop) (w : World) : Prop :=
 (0 : Int) ≤ (i2 : Int) ∧ (i2 : Int) ≤ (a1 : Int) ∧ 
 ((a0 : Int) = 0 →
 R (.slice a3 a1 a2) w) ∧
 ((a0 : Int) ≠ 0 →
 (i2 = (a1 : Int) →
 ∃ (an : Option Addr) (al : Nat) (ao : Nat) (am : World), (Builtin.append_ #[41, 41] 41 #[.slice a3 a1 a2, .slice a8 a0 a9]).run Try.prog w = .ok (.slice an al ao) am ∧
 R (.slice an al ao) am) ∧
 (i2 ≠ (a1 : Int) →
 (-9223372036854775808 : Int) ≤ ((a1 : Int) + (a0 : Int)) ∧ ((a1 : Int) + (a0 : Int)) < 9223372036854775808 ∧
 (((a1 : Int) + (a0 : Int)) > (a2 : Int) →
 (0 : Int) ≤ (i2 : Int) ∧ (i2 : Int) ≤ (a2 : Int) ∧ 
 (-9223372036854775808 : Int) ≤ ((a1 : Int) + (a0 : Int)) ∧ ((a1 : Int) + (a0 : Int)) < 9223372036854775808 ∧
 (-9223372036854775808 : Int) ≤ (((a1 : Int) + (a0 : Int)) - i2) ∧ (((a1 : Int) + (a0 : Int)) - i2) < 9223372036854775808 ∧
 ∃ (ah : Option Addr) (a6 : Nat) (a5 : Nat) (a7 : World), (Builtin.append_ #[41, 3] 41 #[.slice a3 (Int.toNat i2) a2, .int .i64 (((a1 : Int) + (a0 : Int)) - i2)]).run Try.prog w = .ok (.slice ah a6 a5) a7 ∧
 (0 : Int) ≤ (i2 : Int) ∧ (i2 : Int) ≤ (a6 : Int) ∧ 
 ∃ (ap : Int) (ad : World), (Builtin.copy_ #[41, 41] 3 #[.slice (cutA ah a5 (Int.toNat i2) 5) (a6 - (Int.toNat i2)) (a5 - (Int.toNat i2)), .slice a8 a0 a9]).run Try.prog a7 = .ok (.int .i64 ap) ad ∧
 (-9223372036854775808 : Int) ≤ (i2 + (a0 : Int)) ∧ (i2 + (a0 : Int)) < 9223372036854775808 ∧
 (0 : Int) ≤ ((i2 + (a0 : Int)) : Int) ∧ ((i2 + (a0 : Int)) : Int) ≤ (a6 : Int) ∧ 
 (0 : Int) ≤ (i2 : Int) ∧ (i2 : Int) ≤ (a1 : Int) ∧ 
 ∀ (ae : World), Ext no ad ae →
 ∃ (av : Int) (af : World), (Builtin.copy_ #[41, 41] 3 #[.slice (cutA ah a5 (Int.toNat (i2 + (a0 : Int))) 5) (a6 - (Int.toNat (i2 + (a0 : Int)))) (a5 - (Int.toNat (i2 + (a0 : Int)))), .slice (cutA a3 a2 (Int.toNat i2) 5) (a1 - (Int.toNat i2)) (a2 - (Int.toNat i2))]).run Try.prog ae = .ok (.int .i64 av) af ∧
 R (.slice ah a6 a5) af) ∧
 (((a1 : Int) + (a0 : Int)) ≤ (a2 : Int) →
 (-9223372036854775808 : Int) ≤ ((a1 : Int) + (a0 : Int)) ∧ ((a1 : Int) + (a0 : Int)) < 9223372036854775808 ∧
 (0 : Int) ≤ (((a1 : Int) + (a0 : Int)) : Int) ∧ (((a1 : Int) + (a0 : Int)) : Int) ≤ (a2 : Int) ∧ 
 (-9223372036854775808 : Int) ≤ (i2 + (a0 : Int)) ∧ (i2 + (a0 : Int)) < 9223372036854775808 ∧
 (0 : Int) ≤ ((i2 + (a0 : Int)) : Int) ∧ ((i2 + (a0 : Int)) : Int) ≤ ((Int.toNat ((a1 : Int) + (a0 : Int))) : Int) ∧ 
 ∃ (ai : Bool) (a4 : World), (externCall 85 #[.slice a8 a0 a9, .slice (cutA a3 a2 (Int.toNat (i2 + (a0 : Int))) 5) ((Int.toNat ((a1 : Int) + (a0 : Int))) - (Int.toNat (i2 + (a0 : Int)))) (a2 - (Int.toNat (i2 + (a0 : Int))))]).run Try.prog w = .ok (.bool ai) a4 ∧
 (ai = false →
 (-9223372036854775808 : Int) ≤ (i2 + (a0 : Int)) ∧ (i2 + (a0 : Int)) < 9223372036854775808 ∧
 (0 : Int) ≤ ((i2 + (a0 : Int)) : Int) ∧ ((i2 + (a0 : Int)) : Int) ≤ ((Int.toNat ((a1 : Int) + (a0 : Int))) : Int) ∧ 
 (0 : Int) ≤ (i2 : Int) ∧ (i2 : Int) ≤ ((Int.toNat ((a1 : Int) + (a0 : Int))) : Int) ∧ 
 ∀ (aa : World), Ext no a4 aa →
 ∃ (au : Int) (ac : World), (Builtin.copy_ #[41, 41] 3 #[.slice (cutA a3 a2 (Int.toNat (i2 + (a0 : Int))) 5) ((Int.toNat ((a1 : Int) + (a0 : Int))) - (Int.toNat (i2 + (a0 : Int)))) (a2 - (Int.toNat (i2 + (a0 : Int)))), .slice (cutA a3 a2 (Int.toNat i2) 5) ((Int.toNat ((a1 : Int) + (a0 : Int))) - (Int.toNat i2)) (a2 - (Int.toNat i2))]).run Try.prog aa = .ok (.int .i64 au) ac ∧
 (0 : Int) ≤ (i2 : Int) ∧ (i2 : Int) ≤ ((Int.toNat ((a1 : Int) + (a0 : Int))) : Int) ∧ 
 ∃ (aq : Int) (ab : World), (Builtin.copy_ #[41, 41] 3 #[.slice (cutA a3 a2 (Int.toNat i2) 5) ((Int.toNat ((a1 : Int) + (a0 : Int))) - (Int.toNat i2)) (a2 - (Int.toNat i2)), .slice a8 a0 a9]).run Try.prog ac = .ok (.int .i64 aq) ab ∧
 R (.slice a3 (Int.toNat ((a1 : Int) + (a0 : Int))) a2) ab) ∧
 (ai = true →
 (0 : Int) ≤ ((a1 : Int) : Int) ∧ ((a1 : Int) : Int) ≤ ((Int.toNat ((a1 : Int) + (a0 : Int))) : Int) ∧ 
 ∃ (ar : Int) (ag : World), (Builtin.copy_ #[41, 41] 3 #[.slice (cutA a3 a2 (Int.toNat (a1 : Int)) 5) ((Int.toNat ((a1 : Int) + (a0 : Int))) - (Int.toNat (a1 : Int))) (a2 - (Int.toNat (a1 : Int))), .slice a8 a0 a9]).run Try.prog a4 = .ok (.int .i64 ar) ag ∧
 (0 : Int) ≤ (i2 : Int) ∧ (i2 : Int) ≤ ((Int.toNat ((a1 : Int) + (a0 : Int))) : Int) ∧ 
 Calls Try.prog 86 #[.slice (cutA a3 a2 (Int.toNat i2) 5) ((Int.toNat ((a1 : Int) + (a0 : Int))) - (Int.toNat i2)) (a2 - (Int.toNat i2)), .int .i64 (a0 : Int)] ag fun ak aj => ak = .returned (.tuple #[]) ∧
 R (.slice a3 (Int.toNat ((a1 : Int) + (a0 : Int))) a2) aj))))

theorem slices_Insert_members_Member_members_Member.up (ak : Option Addr) (ah : Nat) (al : Nat) (i2 : Int) (ai : Option Addr) (ag : Nat) (aj : Nat) {R : Value → World → Prop} {w : World} (h : slices_Insert_members_Member_members_Member.N ak ah al i2 ai ag aj R w) : slices_Insert_members_Member_members_Member.M ak ah al i2 ai ag aj R w := by
  unfold slices_Insert_members_Member_members_Member.M
  unfold slices_Insert_members_Member_members_Member.N at h
  obtain ⟨a1, a0, h⟩ := h
  refine ⟨a1, a0, ?_⟩
  refine bif_of (fun c4 => ?_) (fun c4 => ?_)
  ·have h := h.1 (beq_t c4)
   exact h
  have h := h.2 (beq_f c4)
  unfold slices_Insert_members_Member_members_Member.J4
  refine bif_of (fun c5 => ?_) (fun c5 => ?_)
  ·have h := h.1 (beq_t c5)
   obtain ⟨b0, am, b2, aw, hr, h⟩ := h
   refine ⟨b0, am, b2, aw, hr, ?_⟩
   exact h
  have h := h.2 (beq_f c5)
  unfold slices_Insert_members_Member_members_Member.J3
  obtain ⟨a2, a3, h⟩ := h
  try rw [w64 a2 a3]
  refine bif_of (fun c8 => ?_) (fun c8 => ?_)
  ·have h := h.1 (of_decide_eq_true c8)
   obtain ⟨a1, a0, h⟩ := h
   refine ⟨a1, a0, ?_⟩
   try rw [cut_zero]
   obtain ⟨a2, a3, h⟩ := h
   try rw [w64 a2 a3]
   obtain ⟨a2, a3, h⟩ := h
   try rw [w64 a2 a3]
   obtain ⟨ap, ax, au, a6, hr, h⟩ := h
   refine ⟨ap, ax, au, a6, hr, ?_⟩
   obtain ⟨a1, a0, h⟩ := h
   refine ⟨a1, a0, ?_⟩
   obtain ⟨ar, a5, hr, h⟩ := h
   refine ⟨ar, a5, hr, ?_⟩
   refine thenW_in fun ae aq => ?_
   have ab := (Ext.refl no a5).x_drew aq
   obtain ⟨a2, a3, h⟩ := h
   try rw [w64 a2 a3]
   obtain ⟨a1, a0, h⟩ := h
   refine ⟨a1, a0, ?_⟩
   obtain ⟨a1, a0, h⟩ := h
   refine ⟨a1, a0, ?_⟩
   have h := h ae ab
   obtain ⟨b4, af, hr, h⟩ := h
   refine ⟨b4, af, hr, ?_⟩
   exact h
  have h := h.2 (Int.not_lt.1 (of_decide_eq_false c8))
  unfold slices_Insert_members_Member_members_Member.J2
  obtain ⟨a2, a3, h⟩ := h
  try rw [w64 a2 a3]
  obtain ⟨a1, a0, h⟩ := h
  refine ⟨a1, a0, ?_⟩
  try rw [cut_zero]
  obtain ⟨a2, a3, h⟩ := h
  try rw [w64 a2 a3]
  obtain ⟨a1, a0, h⟩ := h
  refine ⟨a1, a0, ?_⟩
  obtain ⟨ao, a4, hr, h⟩ := h
  refine ⟨ao, a4, hr, ?_⟩
  refine bif_fo (fun ad => ?_) (fun ad => ?_)
  ·have h := h.2 (not_f ad)
   unfold slices_Insert_members_Member_members_Member.J1
   obtain ⟨a1, a0, h⟩ := h
   refine ⟨a1, a0, ?_⟩
   obtain ⟨az, a7, hr, h⟩ := h
   refine ⟨az, a7, hr, ?_⟩
   obtain ⟨a1, a0, h⟩ := h
   refine ⟨a1, a0, ?_⟩
   refine h.mono fun b1 ay h => ?_
   obtain ⟨he, h⟩ := h
   refine ⟨he, ?_⟩
   exact h
  have h := h.1 (not_t ad)
  refine thenW_in fun a8 an => ?_
  have ac := (Ext.refl no a4).x_drew an
  obtain ⟨a2, a3, h⟩ := h
  try rw [w64 a2 a3]
  obtain ⟨a1, a0, h⟩ := h
  refine ⟨a1, a0, ?_⟩
  obtain ⟨a1, a0, h⟩ := h
  refine ⟨a1, a0, ?_⟩
  have h := h a8 ac
  obtain ⟨b3, aa, hr, h⟩ := h
  refine ⟨b3, aa, hr, ?_⟩
  obtain ⟨a1, a0, h⟩ := h
  refine ⟨a1, a0, ?_⟩
  obtain ⟨av, a9, hr, h⟩ := h
  refine ⟨av, a9, hr, ?_⟩
  exact h

theorem slices_Insert_members_Member_members_Member.go (a0 : Option Addr) (a2 : Nat) (a4 : Nat) (i2 : Int) (a3 : Option Addr) (a1 : Nat) (a5 : Nat) {R : Value → World → Prop} {w : World} (h : slices_Insert_members_Member_members_Member.N a0 a2 a4 i2 a3 a1 a5 R w) : Calls Try.prog 68 #[.slice a0 a2 a4, .int .i64 i2, .slice a3 a1 a5] w fun e w' => ∃ v, e = .returned v ∧ R v w' := slices_Insert_members_Member_members_Member.ok a0 a2 a4 i2 a3 a1 a5 (slices_Insert_members_Member_members_Member.up a0 a2 a4 i2 a3 a1 a5 h)
abbrev cachettelaw12_Own.J1 (ac : Int) (I0 : Nat → List Value → World → Prop) (aq : Nat) (w : World) (ak : World) (R : Value → World → Prop) (al : World) : Prop :=
 thenW (al.drew) fun a7 =>
 ∃ (a0 : Option Addr) (a2 : Nat) (a1 : Nat), a7.cell? ((blk ak.heap.size).add 4) = some (.slice a0 a2 a1) ∧
 ∃ (a6 : Option Addr) (a4 : Nat) (a8 : Nat), a7.cell? ((blk w.heap.size).add 4) = some (.slice a6 a4 a8) ∧
 a6.elim False fun ap =>
 0 ≤ (ac : Int) ∧ (ac : Int) < (a4 : Int) ∧
 ∃ (aa : Int), a7.cell? ((ap.add (Int.toNat ac * 2)).add 0) = some (.int .i64 aa) ∧
 ∃ (a3 : Option Addr) (a5 : Nat) (a9 : Nat), a7.cell? ((blk w.heap.size).add 4) = some (.slice a3 a5 a9) ∧
 a3.elim False fun ao =>
 0 ≤ (ac : Int) ∧ (ac : Int) < (a5 : Int) ∧
 ∃ (ae : Option Addr) (ad : Nat) (ag : Nat), a7.cell? ((ao.add (Int.toNat ac * 2)).add 1) = some (.slice ae ad ag) ∧
 thenW (a7.alloc (.cells #[.int .i64 aa, .slice ae ad ag] 60)) fun ai =>
 ai.cell? ((blk ak.heap.size).add 4) = some (.slice a0 a2 a1) ∧
 ∃ (aj : Option Addr) (ah : Nat) (af : Nat) (ab : World), (Builtin.append_ #[50, 50] 50 #[.slice a0 a2 a1, .slice (some (blk a7.heap.size)) 1 1]).run Try.prog ai = .ok (.slice aj ah af) ab ∧
 canStore ab (((blk ak.heap.size).add 4).add 0) ∧
 thenW (ab.setCell (((blk ak.heap.size).add 4).add 0) (.slice aj ah af)) fun am =>
 ∃ an, an < aq ∧ I0 an [.int .i64 (IntKind.i64.wrap (ac + 1))] am

def cachettelaw12_Own.M (b4 : Int) (bh : Int) (az : Int) (b1 : Int) (aq : Option Addr) (ay : Nat) (ax : Nat) (b7 : Option Addr) (b5 : Nat) (b6 : Nat) (R : Value → World → Prop) (w : World) : Prop :=
 thenW (w.alloc (.cells #[.int .i64 b4, .int .i64 bh, .int .u64 az, .int .i64 b1, .slice aq ay ax, .slice b7 b5 b6] 67)) fun am =>
 thenW (am.alloc (.cells #[.int .i64 0, .int .i64 0, .int .u64 0, .int .i64 0, .slice none 0 0, .slice none 0 0] 52)) fun a5 =>
 ∃ (b3 : Int), a5.cell? ((blk w.heap.size).add 0) = some (.int .i64 b3) ∧
 ∃ (b2 : Int), a5.cell? ((blk w.heap.size).add 1) = some (.int .i64 b2) ∧
 ∃ (ae : Int), a5.cell? ((blk w.heap.size).add 2) = some (.int .u64 ae) ∧
 ∃ (al : Int), a5.cell? ((blk w.heap.size).add 3) = some (.int .i64 al) ∧
 ∃ (av : Option Addr) (au : Nat) (aw : Nat), a5.cell? ((blk w.heap.size).add 5) = some (.slice av au aw) ∧
 thenW (a5.alloc (.cells #[.int .i64 0, .int .i64 0, .int .u64 0, .int .i64 0, .slice none 0 0, .slice none 0 0] 52)) fun bb =>
 canStore bb ((blk a5.heap.size).add 0) ∧
 thenW (bb.setCell ((blk a5.heap.size).add 0) (.int .i64 b3)) fun bi =>
 canStore bi ((blk a5.heap.size).add 1) ∧
 thenW (bi.setCell ((blk a5.heap.size).add 1) (.int .i64 b2)) fun bk =>
 canStore bk ((blk a5.heap.size).add 2) ∧
 thenW (bk.setCell ((blk a5.heap.size).add 2) (.int .u64 ae)) fun be =>
 canStore be ((blk a5.heap.size).add 3) ∧
 thenW (be.setCell ((blk a5.heap.size).add 3) (.int .i64 al)) fun bf =>
 canStore bf ((blk a5.heap.size).add 4) ∧
 thenW (bf.setCell ((blk a5.heap.size).add 4) (.slice none 0 0)) fun b8 =>
 canStore b8 ((blk a5.heap.size).add 5) ∧
 thenW (b8.setCell ((blk a5.heap.size).add 5) (.slice av au aw)) fun bm =>
 ∃ (I0 : Nat → List Value → World → Prop) (bo : Nat), I0 bo [.int .i64 0] bm ∧ ∀ (bn : Nat) (ao : World) (bl : Int), I0 bn [.int .i64 bl] ao →
 ∃ (b0 : Option Addr) (ah : Nat) (ap : Nat), ao.cell? ((blk w.heap.size).add 4) = some (.slice b0 ah ap) ∧
 bif decide (bl < (ah : Int)) then (
 cachettelaw12_Own.J1 bl I0 bn w a5 R ao) else (
 ∃ (ai : Int) (ar : Int) (ad : Int) (ag : Int) (aa : Option Addr) (a6 : Nat) (a9 : Nat) (aj : Option Addr) (ak : Nat) (an : Nat), cellsAt ao (blk a5.heap.size) [.int .i64 ai, .int .i64 ar, .int .u64 ad, .int .i64 ag, .slice aa a6 a9, .slice aj ak an] 0 ∧
 canStore ao ((blk am.heap.size).add 0) ∧
 thenW (ao.setCell ((blk am.heap.size).add 0) (.int .i64 ai)) fun ba =>
 canStore ba ((blk am.heap.size).add 1) ∧
 thenW (ba.setCell ((blk am.heap.size).add 1) (.int .i64 ar)) fun bc =>
 canStore bc ((blk am.heap.size).add 2) ∧
 thenW (bc.setCell ((blk am.heap.size).add 2) (.int .u64 ad)) fun bd =>
 canStore bd ((blk am.heap.size).add 3) ∧
 thenW (bd.setCell ((blk am.heap.size).add 3) (.int .i64 ag)) fun bg =>
 canStore bg ((blk am.heap.size).add 4) ∧
 thenW (bg.setCell ((blk am.heap.size).add 4) (.slice aa a6 a9)) fun bj =>
 canStore bj ((blk am.heap.size).add 5) ∧
 thenW (bj.setCell ((blk am.heap.size).add 5) (.slice aj ak an)) fun b9 =>
 ∃ (ab : Int) (af : Int) (a0 : Int) (a4 : Int) (a3 : Option Addr) (a2 : Nat) (a1 : Nat) (a8 : Option Addr) (a7 : Nat) (ac : Nat), cellsAt b9 (blk am.heap.size) [.int .i64 ab, .int .i64 af, .int .u64 a0, .int .i64 a4, .slice a3 a2 a1, .slice a8 a7 ac] 0 ∧
 R (.agg #[.int .i64 ab, .int .i64 af, .int .u64 a0, .int .i64 a4, .slice a3 a2 a1, .slice a8 a7 ac]) b9)

theorem cachettelaw12_Own.eq (cKind1 : Int) (cWho2 : Int) (cPublic3 : Int) (cLimit4 : Int) (cWraps5a : Option Addr) (cWraps5n : Nat) (cWraps5c : Nat) (cOld6a : Option Addr) (cOld6n : Nat) (cOld6c : Nat) (R : Value → World → Prop) (w : World) : mfunc Try.prog [(0, [1, 2, 3], [(4, (.one (.int .i64)))])] 26 [.agg #[.int .i64 cKind1, .int .i64 cWho2, .int .u64 cPublic3, .int .i64 cLimit4, .slice cWraps5a cWraps5n cWraps5c, .slice cOld6a cOld6n cOld6c]] R w = cachettelaw12_Own.M cKind1 cWho2 cPublic3 cLimit4 cWraps5a cWraps5n cWraps5c cOld6a cOld6n cOld6c R w := by kernel_rfl
theorem cachettelaw12_Own.ok (a6 : Int) (a9 : Int) (a2 : Int) (a4 : Int) (a0 : Option Addr) (a1 : Nat) (a3 : Nat) (a5 : Option Addr) (a7 : Nat) (a8 : Nat) {R : Value → World → Prop} {w : World} (h : cachettelaw12_Own.M a6 a9 a2 a4 a0 a1 a3 a5 a7 a8 R w) : Calls Try.prog 26 #[.agg #[.int .i64 a6, .int .i64 a9, .int .u64 a2, .int .i64 a4, .slice a0 a1 a3, .slice a5 a7 a8]] w fun e w' => ∃ v, e = .returned v ∧ R v w' :=
  mfunc_ok follows (H := [(0, [1, 2, 3], [(4, (.one (.int .i64)))])]) (args := [.agg #[.int .i64 a6, .int .i64 a9, .int .u64 a2, .int .i64 a4, .slice a0 a1 a3, .slice a5 a7 a8]]) (by rw [cachettelaw12_Own.eq]; exact h)

def cachettelaw12_Own.N (av : Int) (b7 : Int) (al : Int) (ap : Int) (ah : Option Addr) (a0 : Nat) (b2 : Nat) (ay : Option Addr) (aw : Nat) (ax : Nat) (R : Value → World → Prop) (w : World) : Prop :=
 ∀ (az : World) (be : Nat) (bd : Nat) (bc : Nat), Ext no w az → Priv w az [be, bd, bc] →
 ∃ (I0 : Nat → List Value → World → Prop) (bh : Nat), I0 bh [.int .i64 0, .int .i64 0, .int .i64 0, .int .u64 0, .int .i64 0, .slice none 0 0, .slice none 0 0, .int .i64 av, .int .i64 b7, .int .u64 al, .int .i64 ap, .slice none 0 0, .slice ay aw ax] az ∧ ∀ (bg : Nat) (af : World) (ag : Int) (aj : Int) (ar : Int) (a7 : Int) (ae : Int) (a6 : Option Addr) (a8 : Nat) (a9 : Nat) (am : Option Addr) (an : Nat) (ai : Nat) (ac : Int) (ao : Int) (a1 : Int) (a5 : Int) (a2 : Option Addr) (a3 : Nat) (a4 : Nat) (ab : Option Addr) (aa : Nat) (ad : Nat), I0 bg [.int .i64 ag, .int .i64 aj, .int .i64 ar, .int .u64 a7, .int .i64 ae, .slice a6 a8 a9, .slice am an ai, .int .i64 ac, .int .i64 ao, .int .u64 a1, .int .i64 a5, .slice a2 a3 a4, .slice ab aa ad] af →
 (ag < (a0 : Int) →
 ∃ bb : Addr, ah = some bb ∧
 0 ≤ (ag : Int) ∧ (ag : Int) < (a0 : Int) ∧
 ∃ (aq : Int), af.cell? ((bb.add (Int.toNat ag * 2)).add 0) = some (.int .i64 aq) ∧
 0 ≤ (ag : Int) ∧ (ag : Int) < (a0 : Int) ∧
 ∃ (b5 : Option Addr) (b9 : Nat) (b3 : Nat), af.cell? ((bb.add (Int.toNat ag * 2)).add 1) = some (.slice b5 b9 b3) ∧
 ∀ (ak : World) (ba : Nat), Ext no af ak → Blk ak ba 60 [.int .i64 aq, .slice b5 b9 b3] → af.heap.size ≤ ba → ba < ak.heap.size →
 ∃ (b6 : Option Addr) (b4 : Nat) (b1 : Nat) (au : World), (Builtin.append_ #[50, 50] 50 #[.slice a2 a3 a4, .slice (some (blk ba)) 1 1]).run Try.prog ak = .ok (.slice b6 b4 b1) au ∧
 Keep [be, bd, bc] ak au ∧
 (-9223372036854775808 : Int) ≤ (ag + 1) ∧ (ag + 1) < 9223372036854775808 ∧
 ∀ (b8 : World), Ext (fun b => b = bc) au b8 →
 ∃ bf, bf < bg ∧ I0 bf [.int .i64 (ag + 1), .int .i64 aj, .int .i64 ar, .int .u64 a7, .int .i64 ae, .slice a6 a8 a9, .slice am an ai, .int .i64 ac, .int .i64 ao, .int .u64 a1, .int .i64 a5, .slice b6 b4 b1, .slice ab aa ad] b8) ∧
 ((a0 : Int) ≤ ag →
 ∀ (b0 : World), Ext (fun b => b = bd) af b0 →
 R (.agg #[.int .i64 ac, .int .i64 ao, .int .u64 a1, .int .i64 a5, .slice a2 a3 a4, .slice ab aa ad]) b0)

theorem cachettelaw12_Own.up (ab : Int) (ar : Int) (a8 : Int) (ad : Int) (ai : Option Addr) (al : Nat) (ak : Nat) (av : Option Addr) (aw : Nat) (ax : Nat) {R : Value → World → Prop} {w : World} (h : cachettelaw12_Own.N ab ar a8 ad ai al ak av aw ax R w) : cachettelaw12_Own.M ab ar a8 ad ai al ak av aw ax R w := by
  unfold cachettelaw12_Own.M
  unfold cachettelaw12_Own.N at h
  refine thenW_in fun b2 e7 => ?_
  have aq := Blk.of_new e7
  have d4 := ((Ext.refl no w)).size
  have co := (Ext.refl no w).x_alloc e7
  refine thenW_in fun au e8 => ?_
  have aa := Blk.of_new e8
  have d1 := (co).size
  have cr := Nat.ne_of_lt aq.lt
  have aq := aq.x_alloc e8
  have cw := co.x_alloc e8
  refine ⟨ab, aq.celli 0 rfl rfl, ?_⟩
  refine ⟨ar, aq.celli 1 rfl rfl, ?_⟩
  refine ⟨a8, aq.celli 2 rfl rfl, ?_⟩
  refine ⟨ad, aq.celli 3 rfl rfl, ?_⟩
  refine ⟨av, aw, ax, aq.celli 5 rfl rfl, ?_⟩
  refine thenW_in fun d6 e9 => ?_
  have an := Blk.of_new e9
  have b9 := (cw).size
  have ay := Nat.ne_of_lt aq.lt
  have aq := aq.x_alloc e9
  have az := Nat.ne_of_lt aa.lt
  have aa := aa.x_alloc e9
  have cx := cw.x_alloc e9
  refine ⟨an.cani 0 rfl rfl, thenW_in fun bo bn => ?_⟩
  have cd := cx.x_set (q := au.heap.size) (i := 0) rfl (.inr b9) bn
  have aq := aq.oth (q := au.heap.size) (i := 0) rfl ay bn
  have aa := aa.oth (q := au.heap.size) (i := 0) rfl az bn
  have an : Blk bo au.heap.size 52 [.int .i64 ab, .int .i64 0, .int .u64 0, .int .i64 0, .slice none 0 0, .slice none 0 0] := an.seti 0 rfl bn
  refine ⟨an.cani 1 rfl rfl, thenW_in fun bw bk => ?_⟩
  have bv := cd.x_set (q := au.heap.size) (i := 1) rfl (.inr b9) bk
  have aq := aq.oth (q := au.heap.size) (i := 1) rfl ay bk
  have aa := aa.oth (q := au.heap.size) (i := 1) rfl az bk
  have an : Blk bw au.heap.size 52 [.int .i64 ab, .int .i64 ar, .int .u64 0, .int .i64 0, .slice none 0 0, .slice none 0 0] := an.seti 1 rfl bk
  refine ⟨an.cani 2 rfl rfl, thenW_in fun ca bg => ?_⟩
  have c8 := bv.x_set (q := au.heap.size) (i := 2) rfl (.inr b9) bg
  have aq := aq.oth (q := au.heap.size) (i := 2) rfl ay bg
  have aa := aa.oth (q := au.heap.size) (i := 2) rfl az bg
  have an : Blk ca au.heap.size 52 [.int .i64 ab, .int .i64 ar, .int .u64 a8, .int .i64 0, .slice none 0 0, .slice none 0 0] := an.seti 2 rfl bg
  refine ⟨an.cani 3 rfl rfl, thenW_in fun ch bi => ?_⟩
  have cm := c8.x_set (q := au.heap.size) (i := 3) rfl (.inr b9) bi
  have aq := aq.oth (q := au.heap.size) (i := 3) rfl ay bi
  have aa := aa.oth (q := au.heap.size) (i := 3) rfl az bi
  have an : Blk ch au.heap.size 52 [.int .i64 ab, .int .i64 ar, .int .u64 a8, .int .i64 ad, .slice none 0 0, .slice none 0 0] := an.seti 3 rfl bi
  refine ⟨an.cani 4 rfl rfl, thenW_in fun cj bl => ?_⟩
  have ci := cm.x_set (q := au.heap.size) (i := 4) rfl (.inr b9) bl
  have aq := aq.oth (q := au.heap.size) (i := 4) rfl ay bl
  have aa := aa.oth (q := au.heap.size) (i := 4) rfl az bl
  have an : Blk cj au.heap.size 52 [.int .i64 ab, .int .i64 ar, .int .u64 a8, .int .i64 ad, .slice none 0 0, .slice none 0 0] := an.seti 4 rfl bl
  refine ⟨an.cani 5 rfl rfl, thenW_in fun bf bj => ?_⟩
  have bs := ci.x_set (q := au.heap.size) (i := 5) rfl (.inr b9) bj
  have aq := aq.oth (q := au.heap.size) (i := 5) rfl ay bj
  have aa := aa.oth (q := au.heap.size) (i := 5) rfl az bj
  have an : Blk bf au.heap.size 52 [.int .i64 ab, .int .i64 ar, .int .u64 a8, .int .i64 ad, .slice none 0 0, .slice av aw ax] := an.seti 5 rfl bj
  have h := h bf (w.heap.size) (b2.heap.size) (au.heap.size) bs (Priv.cons d4 aq.lt (Priv.cons d1 aa.lt (Priv.cons b9 an.lt Priv.nil)))
  obtain ⟨I0, d5, h0, h⟩ := h
  refine ⟨fun k vs ww => ∃ (b0 : Int) (b1 : Int) (ac : Int) (ae : Int) (a1 : Option Addr) (a5 : Nat) (a7 : Nat) (ag : Option Addr) (ah : Nat) (af : Nat) (a3 : Int) (aj : Int) (a0 : Int) (a9 : Int) (a2 : Option Addr) (a6 : Nat) (a4 : Nat) (ao : Option Addr) (am : Nat) (ap : Nat), Blk ww w.heap.size 67 [.int .i64 ab, .int .i64 ar, .int .u64 a8, .int .i64 ad, .slice ai al ak, .slice av aw ax] ∧ Blk ww b2.heap.size 52 [.int .i64 b0, .int .i64 b1, .int .u64 ac, .int .i64 ae, .slice a1 a5 a7, .slice ag ah af] ∧ Blk ww au.heap.size 52 [.int .i64 a3, .int .i64 aj, .int .u64 a0, .int .i64 a9, .slice a2 a6 a4, .slice ao am ap] ∧ I0 k (vs ++ [.int .i64 b0, .int .i64 b1, .int .u64 ac, .int .i64 ae, .slice a1 a5 a7, .slice ag ah af, .int .i64 a3, .int .i64 aj, .int .u64 a0, .int .i64 a9, .slice a2 a6 a4, .slice ao am ap]) ww, d5, ⟨0, 0, 0, 0, none, 0, 0, none, 0, 0, ab, ar, a8, ad, none, 0, 0, av, aw, ax, aq, aa, an, h0⟩, fun d3 b3 cz hI => ?_⟩
  obtain ⟨b0, b1, ac, ae, a1, a5, a7, ag, ah, af, a3, aj, a0, a9, a2, a6, a4, ao, am, ap, aq, aa, an, hI⟩ := hI
  have h := h d3 b3 cz b0 b1 ac ae a1 a5 a7 ag ah af a3 aj a0 a9 a2 a6 a4 ao am ap hI
  refine ⟨ai, al, ak, aq.celli 4 rfl rfl, ?_⟩
  refine bif_fo (fun bx => ?_) (fun bx => ?_)
  ·have h := h.2 (Int.not_lt.1 (of_decide_eq_false bx))
   refine ⟨a3, aj, a0, a9, a2, a6, a4, ao, am, ap, ⟨an.celli 0 rfl rfl, an.celli 1 rfl rfl, an.celli 2 rfl rfl, an.celli 3 rfl rfl, an.celli 4 rfl rfl, an.celli 5 rfl rfl, trivial⟩, ?_⟩
   have bz : Ext (fun b => b = b2.heap.size) b3 b3 := ((Ext.refl no b3)).none
   refine ⟨aa.cani 0 rfl rfl, thenW_in fun br cv => ?_⟩
   have c7 := bz.x_set (q := b2.heap.size) (i := 0) rfl (.inl rfl) cv
   have aa : Blk br b2.heap.size 52 [.int .i64 a3, .int .i64 b1, .int .u64 ac, .int .i64 ae, .slice a1 a5 a7, .slice ag ah af] := aa.seti 0 rfl cv
   refine ⟨aa.cani 1 rfl rfl, thenW_in fun bq ct => ?_⟩
   have cg := c7.x_set (q := b2.heap.size) (i := 1) rfl (.inl rfl) ct
   have aa : Blk bq b2.heap.size 52 [.int .i64 a3, .int .i64 aj, .int .u64 ac, .int .i64 ae, .slice a1 a5 a7, .slice ag ah af] := aa.seti 1 rfl ct
   refine ⟨aa.cani 2 rfl rfl, thenW_in fun cc cp => ?_⟩
   have cb := cg.x_set (q := b2.heap.size) (i := 2) rfl (.inl rfl) cp
   have aa : Blk cc b2.heap.size 52 [.int .i64 a3, .int .i64 aj, .int .u64 a0, .int .i64 ae, .slice a1 a5 a7, .slice ag ah af] := aa.seti 2 rfl cp
   refine ⟨aa.cani 3 rfl rfl, thenW_in fun c0 cs => ?_⟩
   have c5 := cb.x_set (q := b2.heap.size) (i := 3) rfl (.inl rfl) cs
   have aa : Blk c0 b2.heap.size 52 [.int .i64 a3, .int .i64 aj, .int .u64 a0, .int .i64 a9, .slice a1 a5 a7, .slice ag ah af] := aa.seti 3 rfl cs
   refine ⟨aa.cani 4 rfl rfl, thenW_in fun c3 cq => ?_⟩
   have c1 := c5.x_set (q := b2.heap.size) (i := 4) rfl (.inl rfl) cq
   have aa : Blk c3 b2.heap.size 52 [.int .i64 a3, .int .i64 aj, .int .u64 a0, .int .i64 a9, .slice a2 a6 a4, .slice ag ah af] := aa.seti 4 rfl cq
   refine ⟨aa.cani 5 rfl rfl, thenW_in fun bb cu => ?_⟩
   have c6 := c1.x_set (q := b2.heap.size) (i := 5) rfl (.inl rfl) cu
   have aa : Blk bb b2.heap.size 52 [.int .i64 a3, .int .i64 aj, .int .u64 a0, .int .i64 a9, .slice a2 a6 a4, .slice ao am ap] := aa.seti 5 rfl cu
   refine ⟨a3, aj, a0, a9, a2, a6, a4, ao, am, ap, ⟨aa.celli 0 rfl rfl, aa.celli 1 rfl rfl, aa.celli 2 rfl rfl, aa.celli 3 rfl rfl, aa.celli 4 rfl rfl, aa.celli 5 rfl rfl, trivial⟩, ?_⟩
   have h := h bb c6
   exact h
  have h := h.1 (of_decide_eq_true bx)
  unfold cachettelaw12_Own.J1
  refine thenW_in fun ck bm => ?_
  have b4 := (Ext.refl no b3).x_drew bm
  have aq := aq.x_drew bm
  have aa := aa.x_drew bm
  have an := an.x_drew bm
  refine ⟨a2, a6, a4, an.celli 4 rfl rfl, ?_⟩
  refine ⟨ai, al, ak, aq.celli 4 rfl rfl, ?_⟩
  obtain ⟨d7, bc, h⟩ := h
  refine elim_some bc ?_
  obtain ⟨bp, bu, h⟩ := h
  refine ⟨bp, bu, ?_⟩
  obtain ⟨be, c2, h⟩ := h
  refine ⟨be, (b4).cell c2 id, ?_⟩
  refine ⟨ai, al, ak, aq.celli 4 rfl rfl, ?_⟩
  refine elim_some bc ?_
  obtain ⟨bp, bu, h⟩ := h
  refine ⟨bp, bu, ?_⟩
  obtain ⟨c9, cn, bt, c4, h⟩ := h
  refine ⟨c9, cn, bt, (b4).cell c4 id, ?_⟩
  refine thenW_in fun ce ba => ?_
  have aq := aq.x_alloc ba
  have aa := aa.x_alloc ba
  have an := an.x_alloc ba
  have h := h ce ck.heap.size (b4.x_alloc ba) (Blk.of_new ba) (b4).size (size_lt_alloc ba)
  refine ⟨an.celli 4 rfl rfl, ?_⟩
  obtain ⟨b8, b7, b6, b5, hr, hk, h⟩ := h
  refine ⟨b8, b7, b6, b5, hr, ?_⟩
  have aq := hk.blk aq (by simp)
  have aa := hk.blk aa (by simp)
  have an := hk.blk an (by simp)
  have cl : Ext (fun b => b = au.heap.size) b5 b5 := ((Ext.refl no b5)).none
  refine ⟨an.cani 4 rfl rfl, thenW_in fun bd bh => ?_⟩
  have cf := cl.x_set (q := au.heap.size) (i := 4) rfl (.inl rfl) bh
  have aq := aq.oth (q := au.heap.size) (i := 4) rfl ay bh
  have aa := aa.oth (q := au.heap.size) (i := 4) rfl az bh
  have an : Blk bd au.heap.size 52 [.int .i64 a3, .int .i64 aj, .int .u64 a0, .int .i64 a9, .slice b8 b7 b6, .slice ao am ap] := an.seti 4 rfl bh
  obtain ⟨d0, d2, h⟩ := h
  try rw [w64 d0 d2]
  have h := h bd cf
  obtain ⟨cy, hk, h⟩ := h
  exact ⟨cy, hk, b0, b1, ac, ae, a1, a5, a7, ag, ah, af, a3, aj, a0, a9, b8, b7, b6, ao, am, ap, aq, aa, an, h⟩

theorem cachettelaw12_Own.go (a6 : Int) (a9 : Int) (a2 : Int) (a4 : Int) (a0 : Option Addr) (a1 : Nat) (a3 : Nat) (a5 : Option Addr) (a7 : Nat) (a8 : Nat) {R : Value → World → Prop} {w : World} (h : cachettelaw12_Own.N a6 a9 a2 a4 a0 a1 a3 a5 a7 a8 R w) : Calls Try.prog 26 #[.agg #[.int .i64 a6, .int .i64 a9, .int .u64 a2, .int .i64 a4, .slice a0 a1 a3, .slice a5 a7 a8]] w fun e w' => ∃ v, e = .returned v ∧ R v w' := cachettelaw12_Own.ok a6 a9 a2 a4 a0 a1 a3 a5 a7 a8 (cachettelaw12_Own.up a6 a9 a2 a4 a0 a1 a3 a5 a7 a8 h)
abbrev cachettelaw12_Back.J1 (ac : Int) (I0 : Nat → List Value → World → Prop) (aq : Nat) (w : World) (ak : World) (R : Value → World → Prop) (al : World) : Prop :=
 thenW (al.drew) fun a7 =>
 ∃ (a0 : Option Addr) (a2 : Nat) (a1 : Nat), a7.cell? ((blk ak.heap.size).add 4) = some (.slice a0 a2 a1) ∧
 ∃ (a6 : Option Addr) (a4 : Nat) (a8 : Nat), a7.cell? ((blk w.heap.size).add 4) = some (.slice a6 a4 a8) ∧
 a6.elim False fun ap =>
 0 ≤ (ac : Int) ∧ (ac : Int) < (a4 : Int) ∧
 ∃ (aa : Int), a7.cell? ((ap.add (Int.toNat ac * 2)).add 0) = some (.int .i64 aa) ∧
 ∃ (a3 : Option Addr) (a5 : Nat) (a9 : Nat), a7.cell? ((blk w.heap.size).add 4) = some (.slice a3 a5 a9) ∧
 a3.elim False fun ao =>
 0 ≤ (ac : Int) ∧ (ac : Int) < (a5 : Int) ∧
 ∃ (ae : Option Addr) (ad : Nat) (ag : Nat), a7.cell? ((ao.add (Int.toNat ac * 2)).add 1) = some (.slice ae ad ag) ∧
 thenW (a7.alloc (.cells #[.int .i64 aa, .slice ae ad ag] 119)) fun ai =>
 ai.cell? ((blk ak.heap.size).add 4) = some (.slice a0 a2 a1) ∧
 ∃ (aj : Option Addr) (ah : Nat) (af : Nat) (ab : World), (Builtin.append_ #[28, 28] 28 #[.slice a0 a2 a1, .slice (some (blk a7.heap.size)) 1 1]).run Try.prog ai = .ok (.slice aj ah af) ab ∧
 canStore ab (((blk ak.heap.size).add 4).add 0) ∧
 thenW (ab.setCell (((blk ak.heap.size).add 4).add 0) (.slice aj ah af)) fun am =>
 ∃ an, an < aq ∧ I0 an [.int .i64 (IntKind.i64.wrap (ac + 1))] am

def cachettelaw12_Back.M (b4 : Int) (bh : Int) (az : Int) (b1 : Int) (aq : Option Addr) (ay : Nat) (ax : Nat) (b7 : Option Addr) (b5 : Nat) (b6 : Nat) (R : Value → World → Prop) (w : World) : Prop :=
 thenW (w.alloc (.cells #[.int .i64 b4, .int .i64 bh, .int .u64 az, .int .i64 b1, .slice aq ay ax, .slice b7 b5 b6] 52)) fun am =>
 thenW (am.alloc (.cells #[.int .i64 0, .int .i64 0, .int .u64 0, .int .i64 0, .slice none 0 0, .slice none 0 0] 67)) fun a5 =>
 ∃ (b3 : Int), a5.cell? ((blk w.heap.size).add 0) = some (.int .i64 b3) ∧
 ∃ (b2 : Int), a5.cell? ((blk w.heap.size).add 1) = some (.int .i64 b2) ∧
 ∃ (ae : Int), a5.cell? ((blk w.heap.size).add 2) = some (.int .u64 ae) ∧
 ∃ (al : Int), a5.cell? ((blk w.heap.size).add 3) = some (.int .i64 al) ∧
 ∃ (av : Option Addr) (au : Nat) (aw : Nat), a5.cell? ((blk w.heap.size).add 5) = some (.slice av au aw) ∧
 thenW (a5.alloc (.cells #[.int .i64 0, .int .i64 0, .int .u64 0, .int .i64 0, .slice none 0 0, .slice none 0 0] 67)) fun bb =>
 canStore bb ((blk a5.heap.size).add 0) ∧
 thenW (bb.setCell ((blk a5.heap.size).add 0) (.int .i64 b3)) fun bi =>
 canStore bi ((blk a5.heap.size).add 1) ∧
 thenW (bi.setCell ((blk a5.heap.size).add 1) (.int .i64 b2)) fun bk =>
 canStore bk ((blk a5.heap.size).add 2) ∧
 thenW (bk.setCell ((blk a5.heap.size).add 2) (.int .u64 ae)) fun be =>
 canStore be ((blk a5.heap.size).add 3) ∧
 thenW (be.setCell ((blk a5.heap.size).add 3) (.int .i64 al)) fun bf =>
 canStore bf ((blk a5.heap.size).add 4) ∧
 thenW (bf.setCell ((blk a5.heap.size).add 4) (.slice none 0 0)) fun b8 =>
 canStore b8 ((blk a5.heap.size).add 5) ∧
 thenW (b8.setCell ((blk a5.heap.size).add 5) (.slice av au aw)) fun bm =>
 ∃ (I0 : Nat → List Value → World → Prop) (bo : Nat), I0 bo [.int .i64 0] bm ∧ ∀ (bn : Nat) (ao : World) (bl : Int), I0 bn [.int .i64 bl] ao →
 ∃ (b0 : Option Addr) (ah : Nat) (ap : Nat), ao.cell? ((blk w.heap.size).add 4) = some (.slice b0 ah ap) ∧
 bif decide (bl < (ah : Int)) then (
 cachettelaw12_Back.J1 bl I0 bn w a5 R ao) else (
 ∃ (ai : Int) (ar : Int) (ad : Int) (ag : Int) (aa : Option Addr) (a6 : Nat) (a9 : Nat) (aj : Option Addr) (ak : Nat) (an : Nat), cellsAt ao (blk a5.heap.size) [.int .i64 ai, .int .i64 ar, .int .u64 ad, .int .i64 ag, .slice aa a6 a9, .slice aj ak an] 0 ∧
 canStore ao ((blk am.heap.size).add 0) ∧
 thenW (ao.setCell ((blk am.heap.size).add 0) (.int .i64 ai)) fun ba =>
 canStore ba ((blk am.heap.size).add 1) ∧
 thenW (ba.setCell ((blk am.heap.size).add 1) (.int .i64 ar)) fun bc =>
 canStore bc ((blk am.heap.size).add 2) ∧
 thenW (bc.setCell ((blk am.heap.size).add 2) (.int .u64 ad)) fun bd =>
 canStore bd ((blk am.heap.size).add 3) ∧
 thenW (bd.setCell ((blk am.heap.size).add 3) (.int .i64 ag)) fun bg =>
 canStore bg ((blk am.heap.size).add 4) ∧
 thenW (bg.setCell ((blk am.heap.size).add 4) (.slice aa a6 a9)) fun bj =>
 canStore bj ((blk am.heap.size).add 5) ∧
 thenW (bj.setCell ((blk am.heap.size).add 5) (.slice aj ak an)) fun b9 =>
 ∃ (ab : Int) (af : Int) (a0 : Int) (a4 : Int) (a3 : Option Addr) (a2 : Nat) (a1 : Nat) (a8 : Option Addr) (a7 : Nat) (ac : Nat), cellsAt b9 (blk am.heap.size) [.int .i64 ab, .int .i64 af, .int .u64 a0, .int .i64 a4, .slice a3 a2 a1, .slice a8 a7 ac] 0 ∧
 R (.agg #[.int .i64 ab, .int .i64 af, .int .u64 a0, .int .i64 a4, .slice a3 a2 a1, .slice a8 a7 ac]) b9)

theorem cachettelaw12_Back.eq (cKind1 : Int) (cWho2 : Int) (cPublic3 : Int) (cLimit4 : Int) (cWraps5a : Option Addr) (cWraps5n : Nat) (cWraps5c : Nat) (cOld6a : Option Addr) (cOld6n : Nat) (cOld6c : Nat) (R : Value → World → Prop) (w : World) : mfunc Try.prog [(0, [1, 2, 3], [(4, (.one (.int .i64)))])] 15 [.agg #[.int .i64 cKind1, .int .i64 cWho2, .int .u64 cPublic3, .int .i64 cLimit4, .slice cWraps5a cWraps5n cWraps5c, .slice cOld6a cOld6n cOld6c]] R w = cachettelaw12_Back.M cKind1 cWho2 cPublic3 cLimit4 cWraps5a cWraps5n cWraps5c cOld6a cOld6n cOld6c R w := by kernel_rfl
theorem cachettelaw12_Back.ok (a6 : Int) (a9 : Int) (a2 : Int) (a4 : Int) (a0 : Option Addr) (a1 : Nat) (a3 : Nat) (a5 : Option Addr) (a7 : Nat) (a8 : Nat) {R : Value → World → Prop} {w : World} (h : cachettelaw12_Back.M a6 a9 a2 a4 a0 a1 a3 a5 a7 a8 R w) : Calls Try.prog 15 #[.agg #[.int .i64 a6, .int .i64 a9, .int .u64 a2, .int .i64 a4, .slice a0 a1 a3, .slice a5 a7 a8]] w fun e w' => ∃ v, e = .returned v ∧ R v w' :=
  mfunc_ok follows (H := [(0, [1, 2, 3], [(4, (.one (.int .i64)))])]) (args := [.agg #[.int .i64 a6, .int .i64 a9, .int .u64 a2, .int .i64 a4, .slice a0 a1 a3, .slice a5 a7 a8]]) (by rw [cachettelaw12_Back.eq]; exact h)

def cachettelaw12_Back.N (av : Int) (b7 : Int) (al : Int) (ap : Int) (ah : Option Addr) (a0 : Nat) (b2 : Nat) (ay : Option Addr) (aw : Nat) (ax : Nat) (R : Value → World → Prop) (w : World) : Prop :=
 ∀ (az : World) (be : Nat) (bd : Nat) (bc : Nat), Ext no w az → Priv w az [be, bd, bc] →
 ∃ (I0 : Nat → List Value → World → Prop) (bh : Nat), I0 bh [.int .i64 0, .int .i64 0, .int .i64 0, .int .u64 0, .int .i64 0, .slice none 0 0, .slice none 0 0, .int .i64 av, .int .i64 b7, .int .u64 al, .int .i64 ap, .slice none 0 0, .slice ay aw ax] az ∧ ∀ (bg : Nat) (af : World) (ag : Int) (aj : Int) (ar : Int) (a7 : Int) (ae : Int) (a6 : Option Addr) (a8 : Nat) (a9 : Nat) (am : Option Addr) (an : Nat) (ai : Nat) (ac : Int) (ao : Int) (a1 : Int) (a5 : Int) (a2 : Option Addr) (a3 : Nat) (a4 : Nat) (ab : Option Addr) (aa : Nat) (ad : Nat), I0 bg [.int .i64 ag, .int .i64 aj, .int .i64 ar, .int .u64 a7, .int .i64 ae, .slice a6 a8 a9, .slice am an ai, .int .i64 ac, .int .i64 ao, .int .u64 a1, .int .i64 a5, .slice a2 a3 a4, .slice ab aa ad] af →
 (ag < (a0 : Int) →
 ∃ bb : Addr, ah = some bb ∧
 0 ≤ (ag : Int) ∧ (ag : Int) < (a0 : Int) ∧
 ∃ (aq : Int), af.cell? ((bb.add (Int.toNat ag * 2)).add 0) = some (.int .i64 aq) ∧
 0 ≤ (ag : Int) ∧ (ag : Int) < (a0 : Int) ∧
 ∃ (b5 : Option Addr) (b9 : Nat) (b3 : Nat), af.cell? ((bb.add (Int.toNat ag * 2)).add 1) = some (.slice b5 b9 b3) ∧
 ∀ (ak : World) (ba : Nat), Ext no af ak → Blk ak ba 119 [.int .i64 aq, .slice b5 b9 b3] → af.heap.size ≤ ba → ba < ak.heap.size →
 ∃ (b6 : Option Addr) (b4 : Nat) (b1 : Nat) (au : World), (Builtin.append_ #[28, 28] 28 #[.slice a2 a3 a4, .slice (some (blk ba)) 1 1]).run Try.prog ak = .ok (.slice b6 b4 b1) au ∧
 Keep [be, bd, bc] ak au ∧
 (-9223372036854775808 : Int) ≤ (ag + 1) ∧ (ag + 1) < 9223372036854775808 ∧
 ∀ (b8 : World), Ext (fun b => b = bc) au b8 →
 ∃ bf, bf < bg ∧ I0 bf [.int .i64 (ag + 1), .int .i64 aj, .int .i64 ar, .int .u64 a7, .int .i64 ae, .slice a6 a8 a9, .slice am an ai, .int .i64 ac, .int .i64 ao, .int .u64 a1, .int .i64 a5, .slice b6 b4 b1, .slice ab aa ad] b8) ∧
 ((a0 : Int) ≤ ag →
 ∀ (b0 : World), Ext (fun b => b = bd) af b0 →
 R (.agg #[.int .i64 ac, .int .i64 ao, .int .u64 a1, .int .i64 a5, .slice a2 a3 a4, .slice ab aa ad]) b0)

theorem cachettelaw12_Back.up (ab : Int) (ar : Int) (a8 : Int) (ad : Int) (ai : Option Addr) (al : Nat) (ak : Nat) (av : Option Addr) (aw : Nat) (ax : Nat) {R : Value → World → Prop} {w : World} (h : cachettelaw12_Back.N ab ar a8 ad ai al ak av aw ax R w) : cachettelaw12_Back.M ab ar a8 ad ai al ak av aw ax R w := by
  unfold cachettelaw12_Back.M
  unfold cachettelaw12_Back.N at h
  refine thenW_in fun b2 e7 => ?_
  have aq := Blk.of_new e7
  have d4 := ((Ext.refl no w)).size
  have co := (Ext.refl no w).x_alloc e7
  refine thenW_in fun au e8 => ?_
  have aa := Blk.of_new e8
  have d1 := (co).size
  have cr := Nat.ne_of_lt aq.lt
  have aq := aq.x_alloc e8
  have cw := co.x_alloc e8
  refine ⟨ab, aq.celli 0 rfl rfl, ?_⟩
  refine ⟨ar, aq.celli 1 rfl rfl, ?_⟩
  refine ⟨a8, aq.celli 2 rfl rfl, ?_⟩
  refine ⟨ad, aq.celli 3 rfl rfl, ?_⟩
  refine ⟨av, aw, ax, aq.celli 5 rfl rfl, ?_⟩
  refine thenW_in fun d6 e9 => ?_
  have an := Blk.of_new e9
  have b9 := (cw).size
  have ay := Nat.ne_of_lt aq.lt
  have aq := aq.x_alloc e9
  have az := Nat.ne_of_lt aa.lt
  have aa := aa.x_alloc e9
  have cx := cw.x_alloc e9
  refine ⟨an.cani 0 rfl rfl, thenW_in fun bo bn => ?_⟩
  have cd := cx.x_set (q := au.heap.size) (i := 0) rfl (.inr b9) bn
  have aq := aq.oth (q := au.heap.size) (i := 0) rfl ay bn
  have aa := aa.oth (q := au.heap.size) (i := 0) rfl az bn
  have an : Blk bo au.heap.size 67 [.int .i64 ab, .int .i64 0, .int .u64 0, .int .i64 0, .slice none 0 0, .slice none 0 0] := an.seti 0 rfl bn
  refine ⟨an.cani 1 rfl rfl, thenW_in fun bw bk => ?_⟩
  have bv := cd.x_set (q := au.heap.size) (i := 1) rfl (.inr b9) bk
  have aq := aq.oth (q := au.heap.size) (i := 1) rfl ay bk
  have aa := aa.oth (q := au.heap.size) (i := 1) rfl az bk
  have an : Blk bw au.heap.size 67 [.int .i64 ab, .int .i64 ar, .int .u64 0, .int .i64 0, .slice none 0 0, .slice none 0 0] := an.seti 1 rfl bk
  refine ⟨an.cani 2 rfl rfl, thenW_in fun ca bg => ?_⟩
  have c8 := bv.x_set (q := au.heap.size) (i := 2) rfl (.inr b9) bg
  have aq := aq.oth (q := au.heap.size) (i := 2) rfl ay bg
  have aa := aa.oth (q := au.heap.size) (i := 2) rfl az bg
  have an : Blk ca au.heap.size 67 [.int .i64 ab, .int .i64 ar, .int .u64 a8, .int .i64 0, .slice none 0 0, .slice none 0 0] := an.seti 2 rfl bg
  refine ⟨an.cani 3 rfl rfl, thenW_in fun ch bi => ?_⟩
  have cm := c8.x_set (q := au.heap.size) (i := 3) rfl (.inr b9) bi
  have aq := aq.oth (q := au.heap.size) (i := 3) rfl ay bi
  have aa := aa.oth (q := au.heap.size) (i := 3) rfl az bi
  have an : Blk ch au.heap.size 67 [.int .i64 ab, .int .i64 ar, .int .u64 a8, .int .i64 ad, .slice none 0 0, .slice none 0 0] := an.seti 3 rfl bi
  refine ⟨an.cani 4 rfl rfl, thenW_in fun cj bl => ?_⟩
  have ci := cm.x_set (q := au.heap.size) (i := 4) rfl (.inr b9) bl
  have aq := aq.oth (q := au.heap.size) (i := 4) rfl ay bl
  have aa := aa.oth (q := au.heap.size) (i := 4) rfl az bl
  have an : Blk cj au.heap.size 67 [.int .i64 ab, .int .i64 ar, .int .u64 a8, .int .i64 ad, .slice none 0 0, .slice none 0 0] := an.seti 4 rfl bl
  refine ⟨an.cani 5 rfl rfl, thenW_in fun bf bj => ?_⟩
  have bs := ci.x_set (q := au.heap.size) (i := 5) rfl (.inr b9) bj
  have aq := aq.oth (q := au.heap.size) (i := 5) rfl ay bj
  have aa := aa.oth (q := au.heap.size) (i := 5) rfl az bj
  have an : Blk bf au.heap.size 67 [.int .i64 ab, .int .i64 ar, .int .u64 a8, .int .i64 ad, .slice none 0 0, .slice av aw ax] := an.seti 5 rfl bj
  have h := h bf (w.heap.size) (b2.heap.size) (au.heap.size) bs (Priv.cons d4 aq.lt (Priv.cons d1 aa.lt (Priv.cons b9 an.lt Priv.nil)))
  obtain ⟨I0, d5, h0, h⟩ := h
  refine ⟨fun k vs ww => ∃ (b0 : Int) (b1 : Int) (ac : Int) (ae : Int) (a1 : Option Addr) (a5 : Nat) (a7 : Nat) (ag : Option Addr) (ah : Nat) (af : Nat) (a3 : Int) (aj : Int) (a0 : Int) (a9 : Int) (a2 : Option Addr) (a6 : Nat) (a4 : Nat) (ao : Option Addr) (am : Nat) (ap : Nat), Blk ww w.heap.size 52 [.int .i64 ab, .int .i64 ar, .int .u64 a8, .int .i64 ad, .slice ai al ak, .slice av aw ax] ∧ Blk ww b2.heap.size 67 [.int .i64 b0, .int .i64 b1, .int .u64 ac, .int .i64 ae, .slice a1 a5 a7, .slice ag ah af] ∧ Blk ww au.heap.size 67 [.int .i64 a3, .int .i64 aj, .int .u64 a0, .int .i64 a9, .slice a2 a6 a4, .slice ao am ap] ∧ I0 k (vs ++ [.int .i64 b0, .int .i64 b1, .int .u64 ac, .int .i64 ae, .slice a1 a5 a7, .slice ag ah af, .int .i64 a3, .int .i64 aj, .int .u64 a0, .int .i64 a9, .slice a2 a6 a4, .slice ao am ap]) ww, d5, ⟨0, 0, 0, 0, none, 0, 0, none, 0, 0, ab, ar, a8, ad, none, 0, 0, av, aw, ax, aq, aa, an, h0⟩, fun d3 b3 cz hI => ?_⟩
  obtain ⟨b0, b1, ac, ae, a1, a5, a7, ag, ah, af, a3, aj, a0, a9, a2, a6, a4, ao, am, ap, aq, aa, an, hI⟩ := hI
  have h := h d3 b3 cz b0 b1 ac ae a1 a5 a7 ag ah af a3 aj a0 a9 a2 a6 a4 ao am ap hI
  refine ⟨ai, al, ak, aq.celli 4 rfl rfl, ?_⟩
  refine bif_fo (fun bx => ?_) (fun bx => ?_)
  ·have h := h.2 (Int.not_lt.1 (of_decide_eq_false bx))
   refine ⟨a3, aj, a0, a9, a2, a6, a4, ao, am, ap, ⟨an.celli 0 rfl rfl, an.celli 1 rfl rfl, an.celli 2 rfl rfl, an.celli 3 rfl rfl, an.celli 4 rfl rfl, an.celli 5 rfl rfl, trivial⟩, ?_⟩
   have bz : Ext (fun b => b = b2.heap.size) b3 b3 := ((Ext.refl no b3)).none
   refine ⟨aa.cani 0 rfl rfl, thenW_in fun br cv => ?_⟩
   have c7 := bz.x_set (q := b2.heap.size) (i := 0) rfl (.inl rfl) cv
   have aa : Blk br b2.heap.size 67 [.int .i64 a3, .int .i64 b1, .int .u64 ac, .int .i64 ae, .slice a1 a5 a7, .slice ag ah af] := aa.seti 0 rfl cv
   refine ⟨aa.cani 1 rfl rfl, thenW_in fun bq ct => ?_⟩
   have cg := c7.x_set (q := b2.heap.size) (i := 1) rfl (.inl rfl) ct
   have aa : Blk bq b2.heap.size 67 [.int .i64 a3, .int .i64 aj, .int .u64 ac, .int .i64 ae, .slice a1 a5 a7, .slice ag ah af] := aa.seti 1 rfl ct
   refine ⟨aa.cani 2 rfl rfl, thenW_in fun cc cp => ?_⟩
   have cb := cg.x_set (q := b2.heap.size) (i := 2) rfl (.inl rfl) cp
   have aa : Blk cc b2.heap.size 67 [.int .i64 a3, .int .i64 aj, .int .u64 a0, .int .i64 ae, .slice a1 a5 a7, .slice ag ah af] := aa.seti 2 rfl cp
   refine ⟨aa.cani 3 rfl rfl, thenW_in fun c0 cs => ?_⟩
   have c5 := cb.x_set (q := b2.heap.size) (i := 3) rfl (.inl rfl) cs
   have aa : Blk c0 b2.heap.size 67 [.int .i64 a3, .int .i64 aj, .int .u64 a0, .int .i64 a9, .slice a1 a5 a7, .slice ag ah af] := aa.seti 3 rfl cs
   refine ⟨aa.cani 4 rfl rfl, thenW_in fun c3 cq => ?_⟩
   have c1 := c5.x_set (q := b2.heap.size) (i := 4) rfl (.inl rfl) cq
   have aa : Blk c3 b2.heap.size 67 [.int .i64 a3, .int .i64 aj, .int .u64 a0, .int .i64 a9, .slice a2 a6 a4, .slice ag ah af] := aa.seti 4 rfl cq
   refine ⟨aa.cani 5 rfl rfl, thenW_in fun bb cu => ?_⟩
   have c6 := c1.x_set (q := b2.heap.size) (i := 5) rfl (.inl rfl) cu
   have aa : Blk bb b2.heap.size 67 [.int .i64 a3, .int .i64 aj, .int .u64 a0, .int .i64 a9, .slice a2 a6 a4, .slice ao am ap] := aa.seti 5 rfl cu
   refine ⟨a3, aj, a0, a9, a2, a6, a4, ao, am, ap, ⟨aa.celli 0 rfl rfl, aa.celli 1 rfl rfl, aa.celli 2 rfl rfl, aa.celli 3 rfl rfl, aa.celli 4 rfl rfl, aa.celli 5 rfl rfl, trivial⟩, ?_⟩
   have h := h bb c6
   exact h
  have h := h.1 (of_decide_eq_true bx)
  unfold cachettelaw12_Back.J1
  refine thenW_in fun ck bm => ?_
  have b4 := (Ext.refl no b3).x_drew bm
  have aq := aq.x_drew bm
  have aa := aa.x_drew bm
  have an := an.x_drew bm
  refine ⟨a2, a6, a4, an.celli 4 rfl rfl, ?_⟩
  refine ⟨ai, al, ak, aq.celli 4 rfl rfl, ?_⟩
  obtain ⟨d7, bc, h⟩ := h
  refine elim_some bc ?_
  obtain ⟨bp, bu, h⟩ := h
  refine ⟨bp, bu, ?_⟩
  obtain ⟨be, c2, h⟩ := h
  refine ⟨be, (b4).cell c2 id, ?_⟩
  refine ⟨ai, al, ak, aq.celli 4 rfl rfl, ?_⟩
  refine elim_some bc ?_
  obtain ⟨bp, bu, h⟩ := h
  refine ⟨bp, bu, ?_⟩
  obtain ⟨c9, cn, bt, c4, h⟩ := h
  refine ⟨c9, cn, bt, (b4).cell c4 id, ?_⟩
  refine thenW_in fun ce ba => ?_
  have aq := aq.x_alloc ba
  have aa := aa.x_alloc ba
  have an := an.x_alloc ba
  have h := h ce ck.heap.size (b4.x_alloc ba) (Blk.of_new ba) (b4).size (size_lt_alloc ba)
  refine ⟨an.celli 4 rfl rfl, ?_⟩
  obtain ⟨b8, b7, b6, b5, hr, hk, h⟩ := h
  refine ⟨b8, b7, b6, b5, hr, ?_⟩
  have aq := hk.blk aq (by simp)
  have aa := hk.blk aa (by simp)
  have an := hk.blk an (by simp)
  have cl : Ext (fun b => b = au.heap.size) b5 b5 := ((Ext.refl no b5)).none
  refine ⟨an.cani 4 rfl rfl, thenW_in fun bd bh => ?_⟩
  have cf := cl.x_set (q := au.heap.size) (i := 4) rfl (.inl rfl) bh
  have aq := aq.oth (q := au.heap.size) (i := 4) rfl ay bh
  have aa := aa.oth (q := au.heap.size) (i := 4) rfl az bh
  have an : Blk bd au.heap.size 67 [.int .i64 a3, .int .i64 aj, .int .u64 a0, .int .i64 a9, .slice b8 b7 b6, .slice ao am ap] := an.seti 4 rfl bh
  obtain ⟨d0, d2, h⟩ := h
  try rw [w64 d0 d2]
  have h := h bd cf
  obtain ⟨cy, hk, h⟩ := h
  exact ⟨cy, hk, b0, b1, ac, ae, a1, a5, a7, ag, ah, af, a3, aj, a0, a9, b8, b7, b6, ao, am, ap, aq, aa, an, h⟩

theorem cachettelaw12_Back.go (a6 : Int) (a9 : Int) (a2 : Int) (a4 : Int) (a0 : Option Addr) (a1 : Nat) (a3 : Nat) (a5 : Option Addr) (a7 : Nat) (a8 : Nat) {R : Value → World → Prop} {w : World} (h : cachettelaw12_Back.N a6 a9 a2 a4 a0 a1 a3 a5 a7 a8 R w) : Calls Try.prog 15 #[.agg #[.int .i64 a6, .int .i64 a9, .int .u64 a2, .int .i64 a4, .slice a0 a1 a3, .slice a5 a7 a8]] w fun e w' => ∃ v, e = .returned v ∧ R v w' := cachettelaw12_Back.ok a6 a9 a2 a4 a0 a1 a3 a5 a7 a8 (cachettelaw12_Back.up a6 a9 a2 a4 a0 a1 a3 a5 a7 a8 h)
end Go.Proofs.Ytaifegpikhjiiaa

/- copy onto a row of one's own; append(x, make(..)...) onto a row without room; slices.overlaps of two blocks. -/
set_option linter.unusedSimpArgs false
set_option linter.unusedVariables false
set_option linter.unusedSectionVars false
namespace Go.Mx
open Go
section
variable {P : Program} {w w' : World} {b o sz : Nat} {t e : TypeId} {cur cs : List Value}
theorem setCells_setAll : ∀ {cs cur : List Value} {o : Nat} {w : World}, Blk w b t cur → o + cs.length ≤ cur.length → Blk (w.setCells b o cs) b t (setAll cur o cs) ∧ Ext (fun x => x = b) w (w.setCells b o cs)
  | [], cur, o, w, hb, _ => ⟨hb, Ext.refl _ _⟩
  | v :: r, cur, o, w, hb, hl => by
    simp only [List.length_cons] at hl
    have hb2 := hb.set o v
    have X := (Ext.refl (fun x => x = b) w).setCell (a := ⟨b, o, none⟩) (.inl rfl) v
    obtain ⟨h1, h2⟩ := setCells_setAll (cs := r) (o := o + 1) hb2 (by rw [List.length_set]; omega)
    exact ⟨h1, X.trans h2⟩
theorem run_copy_gen {dT sT ty elem : TypeId} {dLen dCap sLen sCap n : Nat} {a : Addr} {i : TypeInfo} (hu : P.underlying dT = some (.slice elem)) (hi : P.info? elem = some i) (hs : i.size = sz) (hm : Nat.min sLen dLen = n) (hn : cs.length = n * sz)
    (hsrc : ∀ j v, cs[j]? = some v → w.cell? (a.add j) = some v) (hb : Blk w b t cur) (hl : o + cs.length ≤ cur.length) (h1 : ∀ v ∈ cs, v.oneCell' = true) :
    (Builtin.copy_ #[dT, sT] ty #[.slice (some ⟨b, o, none⟩) dLen dCap, .slice (some a) sLen sCap]).run P w = .ok (goInt n) (w.setCells b o cs) := by
  have hfc := run_firstCells_some (P := P) w sz n a sLen sCap cs hn hsrc
  have hcan : ∀ j, j < cs.length → canStore w ⟨b, o + j, none⟩ := fun j hj => hb.can (v := cur[o + j]'(by omega)) (List.getElem?_eq_getElem (by omega))
  have hst := run_storeCells_cells (P := P) b o cs 0 w (fun j hj => by obtain ⟨⟨u, hu⟩, _⟩ := hcan j hj; simp [hu]) (fun j hj => by simpa using (hcan j hj).2) h1
  simp only [Nat.add_zero] at hst
  simp [Builtin.copy_, run_underlying hu, Builtin.lenOf, sizeOf, typeInfo, hi, hs, hm, hfc, hst]
theorem setAll_mid {u x y v : List Value} (h : v.length = x.length) : setAll (u ++ x ++ y) u.length v = u ++ v ++ y := by
  have := setAll_shift (vs := v) (u := u) (cs := x ++ y) (k := 0)
  rw [Nat.add_zero] at this
  rw [List.append_assoc, this, setAll_head h, List.append_assoc]
theorem run_grow_zeros {t tn ty : TypeId} {i : TypeInfo} {z : Value} {kq kn : IntKind} {bytes : Nat} (ht : P.underlying t = some (.slice e)) (htn : P.underlying tn = some (.int kn)) (hi : P.info? e = some i) (hz : i.zero = some z) (hsize : i.size = sz) (hby : i.bytes = bytes) (hzs : z.cells.size = sz) (hsz : 0 < sz)
    {a : Option Addr} {n c k : Nat} (hr : RowAt w a cs) (hl : cs.length = n * sz) (ha : a ≠ none) (hk : 0 < k) (hg : c < n + k) (hb : (n + k) * bytes ≤ 140737488355328) (h63 : n + k ≤ 1000000000) :
    ∃ c' w', (Builtin.append_ #[t, tn] ty #[.slice a n c, .int kq k]).run P w = .ok (.slice (some ⟨w.heap.size, 0, none⟩) (n + k) c') w' ∧ Ext no w w' ∧ w.heap.size < w'.heap.size ∧ n + k ≤ c' ∧ c' ≤ maxLen ∧ ∃ zs : List Value, Blk w' w.heap.size e (cs ++ zs) ∧ (cs ++ zs).length = c' * sz := by
  obtain ⟨ad, rfl⟩ := Option.ne_none_iff_exists'.1 ha
  subst hsize
  subst hby
  have hold := run_firstCells_some (P := P) w.drew i.size n ad n c cs hl fun j v hj => hr.at_ hj
  have hfit := growslice_fits hg hb
  have hgc := grownCap_ge w (n + k) c e
  have hrun := Lib.run_append_grow_zeros (P := P) w t tn ty e i z kq kn ht htn hi hz (some ad) n c cs (by
    have := run_firstCells_some (P := P) w.drew i.size n ad n c cs hl fun j v hj => hr.at_ hj
    simpa [Builtin.firstCells] using this) k hk hsz hg (by omega) (by
      have : k * i.bytes ≤ (n + k) * i.bytes := Nat.mul_le_mul_right _ (by omega)
      omega) hfit
  refine ⟨_, _, hrun, ?_, ?_, hgc, grownCap_le_maxLen w (n + k) c e (by unfold maxLen; omega), (Builtin.zeroCells z.cells k).toList ++ (Builtin.zeroCells z.cells (grownCap w (n + k) c e - (n + k))).toList, ?_, ?_⟩
  · exact (Ext.refl no w).drew.alloc _
  · simp
  · have : Blk (w.drew.alloc (.cells (cs.toArray ++ Builtin.zeroCells z.cells k ++ Builtin.zeroCells z.cells (grownCap w (n + k) c e - (n + k))) e)) w.heap.size e (cs ++ ((Builtin.zeroCells z.cells k).toList ++ (Builtin.zeroCells z.cells (grownCap w (n + k) c e - (n + k))).toList)) := by
      unfold Blk
      have := heap_alloc_new w.drew (.cells (cs.toArray ++ Builtin.zeroCells z.cells k ++ Builtin.zeroCells z.cells (grownCap w (n + k) c e - (n + k))) e)
      refine this.trans ?_
      congr 2
      apply Array.ext'
      simp [List.append_assoc]
    exact this
  · simp only [List.length_append, Array.length_toList, size_zeroCells, hzs, hl]
    rw [← Nat.add_mul, ← Nat.add_mul]
    congr 1
    omega
theorem LRow.set {e : TypeId} {N n c j : Nat} {w : World} {o : Own} {a : Option Addr} {cs : List Value} (h : LRow e sz N w o a n c cs) (ok : Tags w o) (hj : j < cs.length) (v : Value) :
    ∃ ad, a = some ad ∧ canStore w (ad.add j) ∧ (∀ k, o ad.block = some k → N ≤ k) ∧ (o ad.block).isSome = true ∧ ∀ w', w' = w.setCell (ad.add j) v → Step (fun i => N ≤ i) w o w' (grow w o) ∧ LRow e sz N w' (grow w o) a n c (cs.set j v) ∧ Ext (fun b => b = ad.block) w w' := by
  rcases h with ⟨rfl, rfl, rfl, rfl⟩ | ⟨k, h1, h2, h⟩
  · simp at hj
  have hl := h.own.1
  rcases h.own.2 with ⟨hv, h0⟩ | ⟨g, cap, cur, hv, _, hgb, hnc, hcm, hcs, htk⟩
  · rw [h0] at hl; omega
  cases hv
  have tg := h.tg ⟨g, 0, none⟩ rfl
  have hblk : Blk w g e cur.toList := by unfold Blk; simpa using hgb
  have hcl : cur.toList.length = c * sz := by simpa using hcs
  have hjc : j < cur.toList.length := by
    have := congrArg List.length htk
    rw [List.length_take] at this
    omega
  have hadd : (⟨g, 0, none⟩ : Addr).add j = ⟨g, j, none⟩ := by simp [Addr.add_lit]
  refine ⟨_, rfl, by rw [hadd]; exact hblk.can (v := cur.toList[j]) (List.getElem?_eq_getElem hjc), fun k' hk' => ?_, by rw [tg.1]; rfl, fun w' hw' => ?_⟩
  · have : some k = some k' := tg.1.symm.trans hk'
    cases this; exact h1
  have X : Ext (fun b => b = g) w w' := by subst hw'; rw [hadd]; exact (Ext.refl (fun b => b = g) w).setCell (a := ⟨g, j, none⟩) (.inl rfl) v
  have s : Step (fun i => i = k) w o w' (grow w o) := Step.of_ext X ok fun b hb _ => by subst hb; exact tg.1
  have hb2 : Blk w' g e (cur.toList.set j v) := by subst hw'; rw [hadd]; exact hblk.set j v
  refine ⟨s.mono fun i hi _ => by omega, .inr ⟨k, h1, Nat.lt_of_lt_of_le h2 s.size, ⟨by rw [List.length_set]; exact hl, .inr ⟨g, c, _, rfl, Nat.zero_le _, hb2, hnc, hcm, by simpa using hcs, ?_⟩⟩, fun ad ha => ?_⟩, X⟩
  · show (cur.toList.set j v).take (n * sz) = cs.set j v
    rw [← htk, List.take_set]
  · cases ha; exact ⟨(s.own tg.2).trans tg.1, Nat.lt_of_lt_of_le tg.2 s.size⟩
theorem run_apart {tS tR : TypeId} (ht : P.underlying tS = some (.slice e)) {i : TypeInfo} (hi : P.info? e = some i) {qa qb la ca lb cb oa ob : Nat} {ca' cb' : List Value} (ha : Blk w qa e ca') (hb : Blk w qb e cb') (hne : qa ≠ qb) (hcb : cb' ≠ [])
    {k : FuncId} {fn : Func} (hf : P.funcs[k]? = some fn) (hname : (fn.name == "runtime.NumGoroutine") = false) (hbd : fn.body.isNone = true) (hn : Extern.findNext fn = none) (he : Extern.find fn = some (Extern.SlicesOverlaps.overlaps #[tS, tS] #[tR])) :
    (externCall k #[.slice (some ⟨qa, oa, none⟩) la ca, .slice (some ⟨qb, ob, none⟩) lb cb]).run P w = .ok (.bool false) w := by
  unfold Blk at ha hb
  have h := Lib.run_overlaps_apart (P := P) w tS tR e ht i.size (fun w => by simp [sizeOf, typeInfo, hi]) ⟨qa, oa, none⟩ ⟨qb, ob, none⟩ la ca lb cb hne e e ca'.length cb'.length (by simp [World.shape?, ha]) (by simp [World.shape?, hb]) (by intro h; exact hcb (List.eq_nil_of_length_eq_zero h))
    (by simp [World.frozen?, ha]) (by simp [World.frozen?, ha])
  unfold externCall
  simp only [Sem.run_bind, run_callFunc_extern hf hname hbd hn he, h, Result.andThen_ok]
  rfl
end
end Go.Mx

/- Members: states and changes as lists; what the program's small functions answer. -/
set_option linter.unusedVariables false
set_option linter.unusedSimpArgs false
set_option maxRecDepth 20000
set_option maxHeartbeats 2000000
namespace Go.Proofs.Ytaifegpikhjiiaa
open Go Go.Mx Go.Proofs
open W (OwnB)
theorem inf70 : (Try.prog.info? 70).map (fun i => (i.zero, i.size, i.bytes)) = some (some (.agg #[.int .i64 0, .int .u64 0, .int .i64 0, .int .i64 0, .int .i64 0]), 5, 40) := by kernel_rfl
theorem inf60 : (Try.prog.info? 60).map (fun i => (i.zero, i.size, i.bytes)) = some (some (.agg #[.int .i64 0, .slice none 0 0]), 2, 32) := by kernel_rfl
structure Mem where
  who : Int
  pub : Int
  fr : Int
  to_ : Int
  lim : Int
deriving DecidableEq
def Mem.C (m : Mem) : List Value := [.int .i64 m.who, .int .u64 m.pub, .int .i64 m.fr, .int .i64 m.to_, .int .i64 m.lim]
theorem Mem.len (m : Mem) : m.C.length = 5 := rfl
theorem Mem.one (m : Mem) : ∀ u ∈ m.C, u.oneCell' = true := fun u hu => by
  simp only [Mem.C, List.mem_cons, List.not_mem_nil, or_false] at hu
  rcases hu with rfl | rfl | rfl | rfl | rfl <;> rfl
theorem Mems.one {l : List Mem} : ∀ u ∈ l.flatMap Mem.C, u.oneCell' = true := fun u hu => by
  obtain ⟨m, _, hm⟩ := List.mem_flatMap.1 hu
  exact m.one u hm
structure Wr where
  who : Int
  a : Option Addr
  c : Nat
  b : List UInt8
def Wr.C (x : Wr) : List Value := [.int .i64 x.who, .slice x.a x.b.length x.c]
def Wr.p (x : Wr) : Int × List UInt8 := (x.who, x.b)
theorem Wr.len (x : Wr) : x.C.length = 2 := rfl
structure Chg where
  kd : Int
  who : Int
  pub : Int
  lim : Int
  ws : List (Int × List UInt8)
  old : List UInt8
def boxesGo (last : Int) : List (Int × List UInt8) → Bool
  | [] => true
  | x :: r => decide (0 ≤ x.1 ∧ x.1 < 8) && decide (last < x.1) && decide (x.2.length = 16) && boxesGo x.1 r
def boxesP (l : List (Int × List UInt8)) : Bool := boxesGo (-1) l && decide (l ≠ [])
def rightM (c : Chg) : Bool :=
  if 0 ≤ c.who ∧ c.who < 8 then
    (if (c.kd == 3) = boxesP c.ws then
      (if c.kd ≠ 3 ∧ ¬ (c.ws = [] ∧ c.old = []) then false
       else if c.kd = 1 then decide (c.pub ≠ 0 ∧ c.lim = 0)
       else if c.kd = 2 then decide (c.who ≠ 0 ∧ c.pub = 0 ∧ 0 ≤ c.lim ∧ c.lim ≤ 200)
       else if c.kd = 3 then decide (c.who = 0 ∧ c.pub = 0 ∧ c.lim = 0 ∧ (c.old.length = 0 ∨ c.old.length = 24))
       else false)
     else false)
  else false
def Sorted (l : List Mem) : Prop := l.Pairwise fun a b => a.who < b.who
def findI (l : List Mem) (x : Int) : Nat := (l.takeWhile fun m => decide (m.who < x)).length
def isAt (l : List Mem) (x : Int) : Bool := match l[findI l x]? with | some m => decide (m.who = x) | none => false
section
variable {w w' w1 : World} {o o' o1 : Own} {a : Option Addr} {c N : Nat} {l : List Wr} {ml : List Mem}
theorem findI_le (l : List Mem) (x : Int) : findI l x ≤ l.length := (List.takeWhile_sublist _).length_le
theorem findI_lt {l : List Mem} {x : Int} {i : Nat} {m : Mem} (h : l[i]? = some m) (hi : i < findI l x) : m.who < x := by
  unfold findI at hi
  induction l generalizing i with
  | nil => simp at h
  | cons y r ih =>
    rw [List.takeWhile_cons] at hi
    by_cases hy : y.who < x
    · rw [if_pos (by simpa using hy)] at hi
      cases i with
      | zero => simp at h; subst h; exact hy
      | succ i => exact ih (by simpa using h) (by simpa using hi)
    · rw [if_neg (by simpa using hy)] at hi; simp at hi
theorem findI_at {l : List Mem} {x : Int} {m : Mem} (h : l[findI l x]? = some m) : x ≤ m.who := by
  unfold findI at h
  induction l with
  | nil => simp at h
  | cons y r ih =>
    rw [List.takeWhile_cons] at h
    by_cases hy : y.who < x
    · rw [if_pos (by simpa using hy)] at h; exact ih (by simpa using h)
    · rw [if_neg (by simpa using hy)] at h; simp at h; subst h; omega
theorem findI_is {l : List Mem} {x : Int} {i : Nat} (hi : i ≤ l.length) (h1 : ∀ j m, j < i → l[j]? = some m → m.who < x) (h2 : ∀ m, l[i]? = some m → x ≤ m.who) : findI l x = i := by
  rcases Nat.lt_trichotomy (findI l x) i with h | h | h
  · have hlt : findI l x < l.length := by omega
    have h3 := findI_at (List.getElem?_eq_getElem hlt)
    have h4 := h1 _ _ h (List.getElem?_eq_getElem hlt)
    omega
  · exact h
  · have hlt : i < l.length := by have := findI_le l x; omega
    have h3 := findI_lt (List.getElem?_eq_getElem hlt) h
    have h4 := h2 _ (List.getElem?_eq_getElem hlt)
    omega
theorem Sorted.get {l : List Mem} (h : Sorted l) {i j : Nat} {x y : Mem} (hi : l[i]? = some x) (hj : l[j]? = some y) (hij : i < j) : x.who < y.who := by
  obtain ⟨h1, rfl⟩ := List.getElem?_eq_some_iff.1 hi
  obtain ⟨h2, rfl⟩ := List.getElem?_eq_some_iff.1 hj
  exact List.pairwise_iff_getElem.1 h i j h1 h2 hij
theorem someone_F (x : Int) : members_someone.F x = decide (0 ≤ x ∧ x < 8) := by
  unfold members_someone.F
  by_cases h : x ≥ 0
  · rw [if_pos h]
    by_cases h2 : x < 8 <;> simp [h2] <;> omega
  · rw [if_neg h]
    rw [eq_comm, decide_eq_false_iff_not]; omega
theorem boxesGo_drop {l : List (Int × List UInt8)} {t : Nat} (ht : t < l.length) (last : Int) : boxesGo last (l.drop t) = (decide (0 ≤ l[t].1 ∧ l[t].1 < 8) && decide (last < l[t].1) && decide (l[t].2.length = 16) && boxesGo l[t].1 (l.drop (t + 1))) := by
  rw [List.drop_eq_getElem_cons ht]; rfl
theorem boxes_spec (hr : RowAt w a (l.flatMap Wr.C)) (hl : l.length < 1000000) :
    Calls Try.prog 64 #[.slice a l.length c] w (Ret (.bool (boxesP (l.map Wr.p))) fun w' => Ext no w w') := by
  refine members_boxes.run _ _ _ ?_
  unfold members_boxes.N
  refine ⟨fun m vs w1 => ∃ (t : Nat) (last : Int), vs = [.int .i64 last, .int .i64 t] ∧ m + t = l.length ∧ Ext no w w1 ∧ boxesGo last ((l.map Wr.p).drop t) = boxesGo (-1) (l.map Wr.p), l.length, ⟨0, -1, rfl, rfl, Ext.refl _ _, rfl⟩, ?_⟩
  rintro m w1 la i ⟨t, last, hi, hm, X1, hB⟩
  simp only [List.cons.injEq, Value.int.injEq, true_and, and_true] at hi
  obtain ⟨rfl, rfl⟩ := hi
  refine ⟨fun ht => ?_, fun ht => ?_⟩
  · have htl : t < l.length := by omega
    have hg : l[t]? = some l[t] := List.getElem?_eq_getElem htl
    rw [boxesGo_drop (by simpa using htl)] at hB
    have e1 : (l.map Wr.p)[t]'(by simpa using htl) = l[t].p := by simp
    rw [e1] at hB
    generalize l[t] = x at *
    obtain ⟨ad, rfl⟩ := hr.faddr Wr.len (by decide) htl
    refine ⟨ad, rfl, by omega, by omega, x.who, x.a, x.b.length, x.c, by rw [Int.toNat_natCast]; exact (hr.no X1).floads Wr.len hg, fun h1 w2 X2 => ?_, fun h1 => ⟨fun h2 w2 X2 => ?_, fun h2 => ⟨fun h3 w2 X2 => ?_, fun h3 => ⟨by omega, by omega, fun w2 X2 => ?_⟩⟩⟩⟩
    · rw [someone_F] at h1
      refine ⟨?_, X1.trans X2⟩
      unfold boxesP; rw [← hB, show decide (0 ≤ x.p.1 ∧ x.p.1 < 8) = false from h1]; rfl
    · refine ⟨?_, X1.trans X2⟩
      unfold boxesP; rw [← hB, show decide (la < x.p.1) = false from decide_eq_false (by show ¬ la < x.who; omega)]; simp
    · refine ⟨?_, X1.trans X2⟩
      unfold boxesP; rw [← hB, show decide (x.p.2.length = 16) = false from decide_eq_false (by show ¬ x.b.length = 16; omega)]; simp
    · rw [someone_F] at h1
      refine ⟨m - 1, by omega, t + 1, x.who, rfl, by omega, X1.trans X2, ?_⟩
      rw [← hB, show decide (0 ≤ x.p.1 ∧ x.p.1 < 8) = true from h1, show decide (la < x.p.1) = true from decide_eq_true (show la < x.who by omega), show decide (x.p.2.length = 16) = true from decide_eq_true (show x.b.length = 16 by omega)]
      rfl
  · obtain rfl : t = l.length := by omega
    rw [List.drop_of_length_le (by simp)] at hB
    refine ⟨?_, X1⟩
    unfold boxesP; rw [← hB]
    cases l <;> simp [boxesGo]
def chgV (c : Chg) (wa : Option Addr) (wc : Nat) (oa : Option Addr) (oc : Nat) : Value := .agg #[.int .i64 c.kd, .int .i64 c.who, .int .u64 c.pub, .int .i64 c.lim, .slice wa c.ws.length wc, .slice oa c.old.length oc]
theorem Right_spec {cg : Chg} {wa oa : Option Addr} {wc oc : Nat} (hr : RowAt w wa (l.flatMap Wr.C)) (hl : l.map Wr.p = cg.ws) (hn : l.length < 1000000) (ho : cg.old.length < 1000000) :
    Calls Try.prog 34 #[chgV cg wa wc oa oc] w (Ret (.bool (rightM cg)) fun w' => Ext no w w') := by
  refine members_Right.run cg.kd cg.who cg.pub cg.lim wa cg.ws.length wc oa cg.old.length oc ?_
  unfold members_Right.N
  rw [someone_F]
  have hlen : l.length = cg.ws.length := by rw [← hl]; simp
  refine ⟨fun h w9 X => ⟨?_, X⟩, fun h w9 p12 X9 hp => ?_⟩
  · unfold rightM; rw [if_neg (of_decide_eq_false h)]
  have hw := of_decide_eq_true h
  rw [← hlen]
  refine (boxes_spec (hr.no X9) hn).mono fun x w15 ⟨he, X15⟩ => ⟨_, he, X15.kept, fun hne => ?_, fun heq => ?_⟩
  · rw [hl] at hne
    exact ⟨by unfold rightM; rw [if_pos hw, if_neg hne], X9.trans X15⟩
  rw [hl] at heq
  have X := X9.trans X15
  have hM : rightM cg = (if cg.kd ≠ 3 ∧ ¬ (cg.ws = [] ∧ cg.old = []) then false
       else if cg.kd = 1 then decide (cg.pub ≠ 0 ∧ cg.lim = 0)
       else if cg.kd = 2 then decide (cg.who ≠ 0 ∧ cg.pub = 0 ∧ 0 ≤ cg.lim ∧ cg.lim ≤ 200)
       else if cg.kd = 3 then decide (cg.who = 0 ∧ cg.pub = 0 ∧ cg.lim = 0 ∧ (cg.old.length = 0 ∨ cg.old.length = 24))
       else false) := by unfold rightM; rw [if_pos hw, if_pos heq]
  have hz : cg.ws = [] ↔ cg.ws.length = 0 := List.length_eq_zero_iff.symm
  have hz2 : cg.old = [] ↔ cg.old.length = 0 := List.length_eq_zero_iff.symm
  refine ⟨fun h3 => ⟨by omega, by omega, fun hpos => ⟨?_, X⟩, fun hpos => ?_⟩, fun h3 => ?_⟩
  · rw [hM, if_pos ⟨h3, fun hh => by rw [hz, hz2] at hh; omega⟩]
  · rw [if_neg (fun hh => hh.2 ⟨hz.2 (by omega), hz2.2 (by omega)⟩)] at hM
    rw [hM]
    refine ⟨fun h1 => ⟨fun hp => ⟨?_, X⟩, fun hp => ⟨?_, X⟩⟩, fun h1 => ⟨fun h2 => ⟨fun hw0 => ⟨fun hp => ⟨fun hl0 => ⟨?_, X⟩, fun hl0 => ⟨?_, X⟩⟩, fun hp => ⟨?_, X⟩⟩, fun hw0 => ⟨?_, X⟩⟩, fun h2 => ⟨fun h => absurd h h3, fun _ => ⟨?_, X⟩⟩⟩⟩
    · rw [if_pos h1]; simp [hp, Bool.beq_eq_decide_eq]
    · rw [if_pos h1]; simp [hp]
    · rw [if_neg h1, if_pos h2]; congr 1; simp [hw0, hp]; omega
    · rw [if_neg h1, if_pos h2]; congr 1; rw [eq_comm, decide_eq_false_iff_not]; omega
    · rw [if_neg h1, if_pos h2]; congr 1; rw [eq_comm, decide_eq_false_iff_not]; exact fun hh => hp hh.2.1
    · rw [if_neg h1, if_pos h2]; congr 1; rw [eq_comm, decide_eq_false_iff_not]; exact fun hh => hh.1 hw0
    · rw [if_neg h1, if_neg h2, if_neg h3]
  · rw [if_neg (fun hh => hh.1 h3), if_neg (by omega), if_neg (by omega), if_pos h3] at hM
    rw [hM]
    refine ⟨fun h => by omega, fun _ => ⟨fun h => by omega, fun _ => ⟨fun _ => ⟨fun hw0 => ⟨fun hp => ⟨fun hl0 => ⟨fun ho0 => ⟨?_, X⟩, fun ho0 => ⟨?_, X⟩⟩, fun hl0 => ⟨?_, X⟩⟩, fun hp => ⟨?_, X⟩⟩, fun hw0 => ⟨?_, X⟩⟩, fun h => absurd h3 h⟩⟩⟩
    · congr 1; rw [eq_comm, decide_eq_true_eq]; exact ⟨hw0, hp, hl0, .inl (by omega)⟩
    · congr 1
      by_cases h24 : cg.old.length = 24
      · rw [h24]; simp [hw0, hp, hl0]
      · have : ((cg.old.length : Int) == 24) = false := by simpa using (show (cg.old.length : Int) ≠ 24 by omega)
        rw [this, eq_comm, decide_eq_false_iff_not]; omega
    · congr 1; rw [eq_comm, decide_eq_false_iff_not]; omega
    · congr 1; rw [eq_comm, decide_eq_false_iff_not]; omega
    · congr 1; rw [eq_comm, decide_eq_false_iff_not]; omega
theorem cmp_F (x y : Int) : cmp_Compare_int.F x y = if x < y then -1 else if x > y then 1 else 0 := by
  unfold cmp_Compare_int.F cmp_isNaN_int.F; simp
theorem find1_spec (m : Mem) (x : Int) : Calls Try.prog 74 #[.agg #[.int .i64 m.who, .int .u64 m.pub, .int .i64 m.fr, .int .i64 m.to_, .int .i64 m.lim], .int .i64 x] w (Ret (.int .i64 (cmp_Compare_int.F m.who x)) fun w' => Ext no w w') := by
  refine members_State_find_1.run m.who m.pub m.fr m.to_ m.lim x ?_
  unfold members_State_find_1.N
  exact fun w' X => ⟨rfl, X⟩
theorem BS_spec (hr : RowAt w a (ml.flatMap Mem.C)) (hs : Sorted ml) (hl : ml.length < 1000000) (x : Int) :
    Calls Try.prog 73 #[.slice a ml.length c, .int .i64 x, .func (.func 74) #[] #[]] w (Ret (.tuple #[.int .i64 (findI ml x : Int), .bool (isAt ml x)]) fun w' => Ext no w w') := by
  refine slices_BinarySearchFunc_members_Member_members_Member_int.run a ml.length c x _ _ _ ?_
  unfold slices_BinarySearchFunc_members_Member_members_Member_int.N
  refine ⟨fun m vs w1 => ∃ (i j : Nat), vs = [.int .i64 i, .int .i64 j] ∧ m + i = j ∧ j ≤ ml.length ∧ Ext no w w1 ∧ (∀ k z, k < i → ml[k]? = some z → z.who < x) ∧ (∀ k z, j ≤ k → ml[k]? = some z → x ≤ z.who), ml.length, ⟨0, ml.length, rfl, rfl, Nat.le_refl _, Ext.refl _ _, fun k z hk => by omega, fun k z hk hz => by have := (List.getElem?_eq_some_iff.1 hz).1; omega⟩, ?_⟩
  rintro m w1 i0 j0 ⟨i, j, hi, hm, hj, X1, h1, h2⟩
  simp only [List.cons.injEq, Value.int.injEq, true_and, and_true] at hi
  obtain ⟨rfl, rfl⟩ := hi
  refine ⟨fun hij => ?_, fun hij => ?_⟩
  · rw [wu64 (by omega) (by omega)]
    have hh : (((i : Int) + (j : Int)) / 2).toNat = (i + j) / 2 := by omega
    have hlt : (i + j) / 2 < ml.length := by omega
    have hg : ml[(i + j) / 2]? = some ml[(i + j) / 2] := List.getElem?_eq_getElem hlt
    obtain ⟨ad, rfl⟩ := hr.faddr Mem.len (by decide) hlt
    generalize ml[(i + j) / 2] = y at *
    refine ⟨by omega, by omega, by omega, by omega, ad, rfl, by omega, by omega, y.who, y.pub, y.fr, y.to_, y.lim, by rw [hh]; exact (hr.no X1).floads Mem.len hg, by kernel_rfl, ?_⟩
    refine (find1_spec y x).mono fun e w19 ⟨he, X19⟩ => ⟨_, he, fun hneg => ⟨by omega, by omega, j - ((i + j) / 2 + 1), by omega, (i + j) / 2 + 1, j, ?_, by omega, hj, X1.trans X19, fun k z hk hz => ?_, h2⟩, fun hpos => ⟨(i + j) / 2 - i, by omega, i, (i + j) / 2, ?_, by omega, by omega, X1.trans X19, h1, fun k z hk hz => ?_⟩⟩
    · simp
    · rw [cmp_F] at hneg
      have hy : y.who < x := by by_cases h : y.who < x; exact h; rw [if_neg h] at hneg; split at hneg <;> omega
      rcases Nat.lt_or_ge k ((i + j) / 2) with hk2 | hk2
      · have := hs.get hz hg hk2; omega
      · have : k = (i + j) / 2 := by omega
        subst this; rw [hg] at hz; cases hz; exact hy
    · simp
    · rw [cmp_F] at hpos
      have hy : ¬ y.who < x := fun h => by rw [if_pos h] at hpos; omega
      rcases Nat.lt_or_ge ((i + j) / 2) k with hk2 | hk2
      · have := hs.get hg hz hk2; omega
      · have : k = (i + j) / 2 := by omega
        subst this; rw [hg] at hz; cases hz; omega
  · have hij2 : i = j := by omega
    subst hij2
    have hI : findI ml x = i := findI_is hj (fun k z hk hz => h1 k z hk hz) fun z hz => h2 i z (Nat.le_refl _) hz
    refine ⟨fun hlt => ?_, fun hge => ⟨?_, X1⟩⟩
    · have hlt2 : i < ml.length := by omega
      have hg : ml[i]? = some ml[i] := List.getElem?_eq_getElem hlt2
      obtain ⟨ad, rfl⟩ := hr.faddr Mem.len (by decide) hlt2
      have hisat : isAt ml x = decide (ml[i].who = x) := by unfold isAt; rw [hI, hg]
      generalize ml[i] = y at *
      refine ⟨ad, rfl, by omega, by omega, y.who, y.pub, y.fr, y.to_, y.lim, by rw [Int.toNat_natCast]; exact (hr.no X1).floads Mem.len hg, by kernel_rfl, ?_⟩
      refine (find1_spec y x).mono fun e w19 ⟨he, X19⟩ => ⟨_, he, ?_, X1.trans X19⟩
      rw [hI, hisat, cmp_F]
      congr 3
      by_cases h : y.who < x
      · rw [if_pos h]; simp; omega
      · rw [if_neg h]
        by_cases h' : y.who > x
        · rw [if_pos h']; simp; omega
        · rw [if_neg h']; simp; omega
    · have hn : ml[i]? = none := List.getElem?_eq_none (by omega)
      have : isAt ml x = false := by unfold isAt; rw [hI, hn]
      rw [hI, this]
theorem find_spec (hr : RowAt w a (ml.flatMap Mem.C)) (hs : Sorted ml) (hl : ml.length < 1000000) (ep x : Int) :
    Calls Try.prog 47 #[.agg #[.slice a ml.length c, .int .i64 ep], .int .i64 x] w (Ret (.tuple #[.int .i64 (findI ml x : Int), .bool (isAt ml x)]) fun w' => Ext no w w') := by
  refine members_State_find.run a ml.length c ep x ?_
  unfold members_State_find.N
  intro w4 X4
  exact (BS_spec (hr.no X4) hs hl x).mono fun e w9 ⟨he, X9⟩ => ⟨_, _, he, rfl, X4.trans X9⟩
theorem isAt_some {ml : List Mem} {x : Int} (h : isAt ml x = true) : ∃ m, ml[findI ml x]? = some m ∧ m.who = x := by
  unfold isAt at h
  cases hg : ml[findI ml x]? with
  | none => rw [hg] at h; cases h
  | some m => rw [hg] at h; exact ⟨m, rfl, of_decide_eq_true h⟩
end
end Go.Proofs.Ytaifegpikhjiiaa

/- Members: what turns a state. -/
set_option linter.unusedVariables false
set_option linter.unusedSimpArgs false
set_option maxRecDepth 20000
set_option maxHeartbeats 2000000
namespace Go.Proofs.Ytaifegpikhjiiaa
open Go Go.Mx Go.Proofs
open W (OwnB)
theorem info_mem : ∃ i, Try.prog.info? 70 = some i ∧ i.zero = some (.agg #[.int .i64 0, .int .u64 0, .int .i64 0, .int .i64 0, .int .i64 0]) ∧ i.size = 5 ∧ i.bytes = 40 := info_of inf70
section
variable {w w' w1 : World} {o o' o1 : Own} {a : Option Addr} {c N : Nat} {l : List Wr} {ml : List Mem} {cs : List Value}
abbrev MRow (N : Nat) (w : World) (o : Own) (a : Option Addr) (c : Nat) (ml : List Mem) : Prop := LRow 70 5 N w o a ml.length c (ml.flatMap Mem.C)
theorem MRow.push (h : MRow N w o a c ml) (ok : Tags w o) (hl : ml.length < 1000000) (m : Mem) {q : Nat} (hb : Blk w q 70 m.C) (hq : N ≤ q) (hq' : q < w.heap.size) :
    ∃ a' c' w' o', (Builtin.append_ #[41, 41] 41 #[.slice a ml.length c, .slice (some (blk q)) 1 1]).run Try.prog w = .ok (.slice a' (ml ++ [m]).length c') w' ∧ Step (fun j => N ≤ j) w o w' o' ∧ MRow N w' o' a' c' (ml ++ [m]) := by
  obtain ⟨i, hi, hz, hsz, hby⟩ := info_mem
  obtain ⟨a', c', w', o', hrun, s2, hrow, _⟩ := LRow.push (ty := 41) Try.underlying41 hi hz hsz hby rfl (by decide) h ok hq hq' (xa := some (blk q)) (m := 1) (xc := 1) (news := m.C) rfl (RowAt.of_blk hb) m.one (by omega) (by omega)
  exact ⟨a', c', w', o', by rw [List.length_append]; exact hrun, s2, by unfold MRow; rw [List.length_append, List.flatMap_append]; simpa using hrow⟩
theorem Clone_spec (ok : Tags w o) (hr : RowAt w a (ml.flatMap Mem.C)) (hl : ml.length < 1000000) :
    Calls Try.prog 67 #[.slice a ml.length c] w (fun x w' => ∃ o' a' c', x = .returned (.slice a' ml.length c') ∧ Step no w o w' o' ∧ MRow w.heap.size w' o' a' c' ml) := by
  refine (slices_Clone_members_Member_members_Member.go _ _ _ (R := fun v w' => ∃ o' a' c', v = (.slice a' ml.length c') ∧ Step no w o w' o' ∧ MRow w.heap.size w' o' a' c' ml) ?_).mono fun x w' ⟨v, he, o', a', c', hv, hw⟩ => ⟨o', a', c', by rw [he, hv], hw⟩
  unfold slices_Clone_members_Member_members_Member.N
  refine ⟨fun hn => ?_, fun hn w3 q X hb hq hq' => ?_⟩
  · subst hn
    have h0 := hr.none_nil
    have : ml = [] := by
      have := flat_length (f := Mem.C) Mem.len ml
      rw [h0] at this
      exact List.eq_nil_of_length_eq_zero (by simp at this; omega)
    subst this
    exact ⟨o, none, 0, rfl, Step.refl _ ok, LRow.nil _ _ _ _ _⟩
  · obtain ⟨i, hi, hz, hsz, hby⟩ := info_mem
    have s3 := (Step.of_no X ok).tag hq hq'
    have g3 : Grows 70 5 w3 (tag (grow w o) q q) q (some (blk q)) 0 0 [] := ⟨owns_of_blk hb rfl (Nat.zero_le _), fun ad ha => by cases ha; exact ⟨tag_self, hq'⟩⟩
    have L3 : LRow 70 5 w.heap.size w3 (tag (grow w o) q q) (some (blk q)) 0 0 [] := .inr ⟨q, hq, hq', g3⟩
    obtain ⟨a', c', w6, o6, hrun, s6, hrow, _⟩ := L3.push (ty := 41) Try.underlying41 hi hz hsz hby rfl (by decide) s3.ok hq hq' (xa := a) (m := ml.length) (xc := c) (news := ml.flatMap Mem.C) (flat_length Mem.len ml) (hr.no X) Mems.one (by omega) (by omega)
    rw [Nat.zero_add, List.nil_append] at hrow
    rw [Nat.zero_add] at hrun
    exact ⟨a', _, c', w6, hrun, o6, a', c', rfl, s3.trans' s6 fun j hj => .inr hj, hrow⟩
theorem flat_split (ml : List Mem) (i : Nat) : (ml.flatMap Mem.C).take (i * 5) = (ml.take i).flatMap Mem.C ∧ (ml.flatMap Mem.C).drop (i * 5) = (ml.drop i).flatMap Mem.C := by
  induction ml generalizing i with
  | nil => simp
  | cons x r ih =>
    cases i with
    | zero => simp
    | succ i =>
      have := ih i
      have hx : x.C.length = 5 := rfl
      simp only [List.flatMap_cons, List.take_succ_cons, List.drop_succ_cons]
      rw [show (i + 1) * 5 = x.C.length + i * 5 by rw [hx]; omega, List.take_length_add_append, List.drop_length_add_append, this.1, this.2]
      simp
theorem Insert_spec (h : MRow N w o a c ml) (ok : Tags w o) (hl : ml.length < 1000) {i : Nat} (hi : i ≤ ml.length) (m : Mem) {q : Nat} (hb : Blk w q 70 m.C) (hq : N ≤ q) (hq' : q < w.heap.size) (hoq : o q = none) :
    Calls Try.prog 68 #[.slice a ml.length c, .int .i64 i, .slice (some (blk q)) 1 1] w (fun x w' => ∃ o' a' c', x = .returned (.slice a' (ml.length + 1) c') ∧ Step (fun j => N ≤ j) w o w' o' ∧ MRow N w' o' a' c' (ml.take i ++ m :: ml.drop i)) := by
  refine (slices_Insert_members_Member_members_Member.go _ _ _ _ _ _ _ (R := fun v w' => ∃ o' a' c', v = (.slice a' (ml.length + 1) c') ∧ Step (fun j => N ≤ j) w o w' o' ∧ MRow N w' o' a' c' (ml.take i ++ m :: ml.drop i)) ?_).mono fun x w' ⟨v, he, o', a', c', hv, hw⟩ => ⟨o', a', c', by rw [he, hv], hw⟩
  unfold slices_Insert_members_Member_members_Member.N
  obtain ⟨inf, hinf, hz, hsz, hby⟩ := info_mem
  have hnew : (ml.take i ++ m :: ml.drop i).length = ml.length + 1 := by simp; omega
  have hcells : (ml.take i ++ m :: ml.drop i).flatMap Mem.C = (ml.flatMap Mem.C).take (i * 5) ++ m.C ++ (ml.flatMap Mem.C).drop (i * 5) := by
    rw [(flat_split ml i).1, (flat_split ml i).2]; simp
  have hfl := flat_length (f := Mem.C) Mem.len ml
  refine ⟨by omega, by omega, fun h0 => by omega, fun _ => ⟨fun he => ?_, fun hne => ⟨by omega, by omega, fun hg => ?_, fun hroom => ?_⟩⟩⟩
  · have hie : i = ml.length := by omega
    obtain ⟨a', c', w', o', hrun, s, hrow⟩ := h.push ok (by omega) m hb hq hq'
    refine ⟨a', _, c', w', hrun, o', a', c', by simp, s, ?_⟩
    subst hie
    rw [List.take_length, List.drop_length]; exact hrow
  all_goals
    have hlt : i < ml.length := by omega
    rcases h with ⟨rfl, h0, _⟩ | ⟨k, hk1, hk2, hG⟩
    · omega
    have hkind := hG.own.2
    rcases hkind with ⟨hv, h0⟩ | ⟨g, cap, cur, hv, _, hgb, hnc, hcm, hcs, htk⟩
    · omega
    cases hv
    have tg := hG.tg ⟨g, 0, none⟩ rfl
    have hqg : q ≠ g := fun e => by subst e; rw [hoq] at tg; cases tg.1
    have hblk : Blk w g 70 cur.toList := by unfold Blk; simpa using hgb
    have hcl : cur.toList.length = c * 5 := by simpa using hcs
    have hmul : ml.length * 5 ≤ c * 5 := Nat.mul_le_mul_right 5 hnc
    have hrow := hG.row
    have hci : ∀ k, k ≤ i + 1 → k ≤ ml.length → c ≠ k ∨ k = c := fun k _ _ => by omega
  · -- a new row
    obtain ⟨c', w10, hrun, X10, hlt10, hc1, hc2, zs, hb10, hzl⟩ := run_grow_zeros (P := Try.prog) (w := w) (t := 41) (tn := 3) (ty := 41) (kq := .i64) (sz := 5) Try.underlying41 Try.underlying3 hinf hz hsz hby rfl (by decide)
      (a := some ⟨g, 0, none⟩) (n := i) (c := c) (k := ml.length + 1 - i) (cs := (ml.flatMap Mem.C).take (i * 5)) (hrow.take _) (by rw [List.length_take, hfl]; omega) (by simp) (by omega) (by omega) (by omega) (by omega)
    have e1 : (ml.length : Int) + ((1 : Nat) : Int) - (i : Int) = ((ml.length + 1 - i : Nat) : Int) := by omega
    have e2 : i + (ml.length + 1 - i) = ml.length + 1 := by omega
    rw [e2] at hrun hc1
    rw [e1, Int.toNat_natCast]
    refine ⟨by omega, by omega, by omega, by omega, by omega, by omega, _, _, c', w10, hrun, by omega, by omega, ?_⟩
    generalize hB : w.heap.size = B at *
    -- the new one
    have hcut : cutA (some ⟨B, 0, none⟩) c' i 5 = some ⟨B, i * 5, none⟩ := by unfold cutA; rw [if_neg (by omega)]; simp [Addr.add_lit]
    have hq10 : Blk w10 q 70 m.C := hb.ext X10 id
    have hzs : ∃ z1 z2, zs = z1 ++ z2 ∧ z1.length = 5 ∧ True := ⟨zs.take 5, zs.drop 5, (List.take_append_drop _ _).symm, by
      have hl2 : ((ml.flatMap Mem.C).take (i * 5)).length = i * 5 := by rw [List.length_take, hfl]; omega
      rw [List.length_append, hl2] at hzl
      rw [List.length_take]; omega, trivial⟩
    obtain ⟨z1, z2, rfl, hz1, _⟩ := hzs
    have hl2 : ((ml.flatMap Mem.C).take (i * 5)).length = i * 5 := by rw [List.length_take, hfl]; omega
    have hrun2 := run_copy_gen (P := Try.prog) (w := w10) (dT := 41) (sT := 41) (ty := 3) (sz := 5) (dLen := ml.length + 1 - i) (dCap := c' - i) (sLen := 1) (sCap := 1) (n := 1) (a := blk q) (cs := m.C) (b := B) (o := i * 5) Try.underlying41 hinf hsz (Nat.min_eq_left (by omega)) rfl (fun j v hj => hq10.cella (i := j) hj) hb10 (by
      simp only [List.length_append, hl2, hz1, Mem.len]; omega) m.one
    obtain ⟨hb12, X12⟩ := setCells_setAll (cs := m.C) (o := i * 5) hb10 (by simp only [List.length_append, hl2, hz1, Mem.len]; omega)
    have hset1 : setAll ((ml.flatMap Mem.C).take (i * 5) ++ (z1 ++ z2)) (i * 5) m.C = (ml.flatMap Mem.C).take (i * 5) ++ m.C ++ z2 := by
      rw [← List.append_assoc]
      have := setAll_mid (u := (ml.flatMap Mem.C).take (i * 5)) (x := z1) (y := z2) (v := m.C) (by rw [hz1]; rfl)
      rwa [hl2] at this
    rw [hset1] at hb12
    rw [hcut]
    refine ⟨1, _, hrun2, by omega, by omega, by omega, by omega, by omega, by omega, fun w13 X13 => ?_⟩
    have hb13 := hb12.ext X13 id
    have e3 : ((i : Int) + ((1 : Nat) : Int)).toNat = i + 1 := by omega
    rw [e3]
    have hcut2 : cutA (some ⟨B, 0, none⟩) c' (i + 1) 5 = some ⟨B, (i + 1) * 5, none⟩ := by
      unfold cutA
      rw [if_neg (by omega)]; simp [Addr.add_lit]
    have hcut3 : cutA (some ⟨g, 0, none⟩) c i 5 = some ⟨g, i * 5, none⟩ := by unfold cutA; rw [if_neg (by omega)]; simp [Addr.add_lit]
    rw [hcut2, hcut3]
    have hgB0 : g < B := tg.2
    have hgB : g ≠ B := by omega
    have X013 : Ext no w w13 := (X10.then X12 fun b hb => .inr (by omega)).trans X13
    have hrow13 := hrow.no X013
    have hsrc : ∀ j v, ((ml.flatMap Mem.C).drop (i * 5))[j]? = some v → w13.cell? ((⟨g, i * 5, none⟩ : Addr).add j) = some v := fun j v hj => by
      rw [List.getElem?_drop] at hj
      have := hrow13.at_ hj
      rw [Addr.add_lit] at this ⊢
      simpa using this
    have hdl : ((ml.flatMap Mem.C).drop (i * 5)).length = (ml.length - i) * 5 := by rw [List.length_drop, hfl]; omega
    have hz2 : (ml.length - i) * 5 ≤ z2.length := by
      rw [List.length_append, List.length_append, hl2, hz1] at hzl; omega
    have hl3 : ((ml.flatMap Mem.C).take (i * 5) ++ m.C).length = (i + 1) * 5 := by rw [List.length_append, hl2, Mem.len]; omega
    have hrun3 := run_copy_gen (P := Try.prog) (w := w13) (dT := 41) (sT := 41) (ty := 3) (sz := 5) (dLen := ml.length + 1 - (i + 1)) (dCap := c' - (i + 1)) (sLen := ml.length - i) (sCap := c - i) (n := ml.length - i) (a := ⟨g, i * 5, none⟩) (cs := (ml.flatMap Mem.C).drop (i * 5)) (b := B) (o := (i + 1) * 5) Try.underlying41 hinf hsz (Nat.min_eq_left (by omega)) hdl hsrc hb13 (by
      rw [List.length_append, hl3, hdl]; omega) (fun v hv => Mems.one v (List.mem_of_mem_drop hv))
    obtain ⟨hb15, X15⟩ := setCells_setAll (cs := (ml.flatMap Mem.C).drop (i * 5)) (o := (i + 1) * 5) hb13 (by rw [List.length_append, hl3, hdl]; omega)
    have hset2 : setAll ((ml.flatMap Mem.C).take (i * 5) ++ m.C ++ z2) ((i + 1) * 5) ((ml.flatMap Mem.C).drop (i * 5)) = (ml.flatMap Mem.C).take (i * 5) ++ m.C ++ (ml.flatMap Mem.C).drop (i * 5) ++ z2.drop ((ml.length - i) * 5) := by
      have := setAll_mid (u := (ml.flatMap Mem.C).take (i * 5) ++ m.C) (x := z2.take ((ml.length - i) * 5)) (y := z2.drop ((ml.length - i) * 5)) (v := (ml.flatMap Mem.C).drop (i * 5)) (by rw [hdl, List.length_take]; omega)
      rw [hl3, List.append_assoc _ (z2.take _), List.take_append_drop] at this
      exact this
    rw [hset2] at hb15
    refine ⟨_, _, hrun3, ?_⟩
    have X015 : Ext no w (w13.setCells B ((i + 1) * 5) ((ml.flatMap Mem.C).drop (i * 5))) := X013.then X15 fun b hb => .inr (by omega)
    have sz15 := X015.size
    have hB15 := hb15.lt
    have s := (Step.of_no X015 ok).tag (p := B) (j := k) (by omega) (by omega)
    refine ⟨_, some ⟨B, 0, none⟩, c', rfl, s.none, .inr ⟨k, hk1, by omega, ?_, fun ad ha => ?_⟩⟩
    · have hlen : (ml.take i ++ m :: ml.drop i).length * 5 = ((ml.flatMap Mem.C).take (i * 5) ++ m.C ++ (ml.flatMap Mem.C).drop (i * 5)).length := by
        rw [← hcells, flat_length Mem.len]
      rw [hcells]
      refine ⟨by rw [← hlen], .inr ⟨B, c', _, rfl, Nat.zero_le _, hb15, by rw [hnew]; exact hc1, hc2, ?_, ?_⟩⟩
      · have hh := hzl
        simp only [List.length_append, hl2, hz1, Mem.len] at hh
        simp only [List.size_toArray, List.length_append, hl2, Mem.len, hdl, List.length_drop]
        omega
      · rw [hlen]; exact List.take_left
    · cases ha; exact ⟨tag_self, by omega⟩
  · -- in place
    have e0 : ((ml.length : Int) + ((1 : Nat) : Int)).toNat = ml.length + 1 := by omega
    have e3 : ((i : Int) + ((1 : Nat) : Int)).toNat = i + 1 := by omega
    rw [e0, e3]
    have hcut2 : cutA (some ⟨g, 0, none⟩) c (i + 1) 5 = some ⟨g, (i + 1) * 5, none⟩ := by unfold cutA; rw [if_neg (by omega)]; simp [Addr.add_lit]
    have hcut3 : cutA (some ⟨g, 0, none⟩) c i 5 = some ⟨g, i * 5, none⟩ := by unfold cutA; rw [if_neg (by omega)]; simp [Addr.add_lit]
    rw [Int.toNat_natCast, hcut2, hcut3]
    have hapart := run_apart (P := Try.prog) (w := w) (tS := 41) (tR := 4) (la := 1) (ca := 1) (lb := ml.length + 1 - (i + 1)) (cb := c - (i + 1)) (oa := 0) (ob := (i + 1) * 5) Try.underlying41 hinf hb hblk hqg (fun e => by rw [e] at hcl; simp at hcl; omega)
      (k := 85) Try.func85 (by kernel_rfl) (by kernel_rfl) (by kernel_rfl) (by kernel_rfl)
    refine ⟨by omega, by omega, by omega, by omega, by omega, by omega, by omega, by omega, false, w, hapart, fun _ => ⟨by omega, by omega, by omega, by omega, by omega, by omega, fun w19 X19 => ?_⟩, fun h => absurd h (by decide)⟩
    have hb19 := hblk.ext X19 id
    have hq19 := hb.ext X19 id
    have hrow19 := hrow.no X19
    have hcur : cur.toList = ml.flatMap Mem.C ++ cur.toList.drop (ml.length * 5) := by
      rw [← htk, List.take_append_drop]
    generalize hrest : cur.toList.drop (ml.length * 5) = rest at *
    have hrl : rest.length = c * 5 - ml.length * 5 := by rw [← hrest, List.length_drop, hcl]
    have hsplit : ml.flatMap Mem.C = (ml.flatMap Mem.C).take (i * 5) ++ (ml.flatMap Mem.C).drop (i * 5) := (List.take_append_drop _ _).symm
    have hl2 : ((ml.flatMap Mem.C).take (i * 5)).length = i * 5 := by rw [List.length_take, hfl]; omega
    have hdl : ((ml.flatMap Mem.C).drop (i * 5)).length = (ml.length - i) * 5 := by rw [List.length_drop, hfl]; omega
    have hsrc : ∀ j v, ((ml.flatMap Mem.C).drop (i * 5))[j]? = some v → w19.cell? ((⟨g, i * 5, none⟩ : Addr).add j) = some v := fun j v hj => by
      rw [List.getElem?_drop] at hj
      have := hrow19.at_ hj
      rw [Addr.add_lit] at this ⊢
      simpa using this
    have hrun1 := run_copy_gen (P := Try.prog) (w := w19) (dT := 41) (sT := 41) (ty := 3) (sz := 5) (dLen := ml.length + 1 - (i + 1)) (dCap := c - (i + 1)) (sLen := ml.length + 1 - i) (sCap := c - i) (n := ml.length - i) (a := ⟨g, i * 5, none⟩) (cs := (ml.flatMap Mem.C).drop (i * 5)) (b := g) (o := (i + 1) * 5) Try.underlying41 hinf hsz (by show min _ _ = _; omega) hdl hsrc hb19 (by rw [hdl, hcl]; omega) (fun v hv => Mems.one v (List.mem_of_mem_drop hv))
    obtain ⟨hb21, X21⟩ := setCells_setAll (cs := (ml.flatMap Mem.C).drop (i * 5)) (o := (i + 1) * 5) hb19 (by rw [hdl, hcl]; omega)
    refine ⟨_, _, hrun1, by omega, by omega, ?_⟩
    have hq21 := hq19.ext X21 hqg
    -- what stands there now: the first i, one more, then the rest
    have h5 : ∃ y1 y2, (ml.flatMap Mem.C).drop (i * 5) ++ rest = y1 ++ y2 ∧ y1.length = 5 ∧ (ml.length - i) * 5 ≤ y2.length := ⟨((ml.flatMap Mem.C).drop (i * 5) ++ rest).take 5, ((ml.flatMap Mem.C).drop (i * 5) ++ rest).drop 5, (List.take_append_drop _ _).symm, by rw [List.length_take, List.length_append, hdl, hrl]; omega, by rw [List.length_drop, List.length_append, hdl, hrl]; omega⟩
    obtain ⟨y1, y2, hy, hy1, hy2⟩ := h5
    have hcur2 : cur.toList = (ml.flatMap Mem.C).take (i * 5) ++ y1 ++ y2 := by rw [hcur, List.append_assoc, ← hy, ← List.append_assoc, ← hsplit]
    have hl3 : ((ml.flatMap Mem.C).take (i * 5) ++ y1).length = (i + 1) * 5 := by rw [List.length_append, hl2, hy1]; omega
    have hset1 : setAll cur.toList ((i + 1) * 5) ((ml.flatMap Mem.C).drop (i * 5)) = (ml.flatMap Mem.C).take (i * 5) ++ y1 ++ (ml.flatMap Mem.C).drop (i * 5) ++ y2.drop ((ml.length - i) * 5) := by
      have := setAll_mid (u := (ml.flatMap Mem.C).take (i * 5) ++ y1) (x := y2.take ((ml.length - i) * 5)) (y := y2.drop ((ml.length - i) * 5)) (v := (ml.flatMap Mem.C).drop (i * 5)) (by rw [hdl, List.length_take]; omega)
      rw [hl3, List.append_assoc _ (y2.take _), List.take_append_drop, ← hcur2] at this
      exact this
    rw [hset1] at hb21
    have hrun2 := run_copy_gen (P := Try.prog) (dT := 41) (sT := 41) (ty := 3) (sz := 5) (dLen := ml.length + 1 - i) (dCap := c - i) (sLen := 1) (sCap := 1) (n := 1) (a := blk q) (cs := m.C) (b := g) (o := i * 5) Try.underlying41 hinf hsz (Nat.min_eq_left (by omega)) rfl (fun j v hj => hq21.cella (i := j) hj) hb21 (by
      simp only [List.length_append, hl2, hy1, Mem.len]; omega) m.one
    obtain ⟨hb23, X23⟩ := setCells_setAll (cs := m.C) (o := i * 5) hb21 (by simp only [List.length_append, hl2, hy1, Mem.len]; omega)
    refine ⟨_, _, hrun2, ?_⟩
    have hset2 : setAll ((ml.flatMap Mem.C).take (i * 5) ++ y1 ++ (ml.flatMap Mem.C).drop (i * 5) ++ y2.drop ((ml.length - i) * 5)) (i * 5) m.C = (ml.flatMap Mem.C).take (i * 5) ++ m.C ++ (ml.flatMap Mem.C).drop (i * 5) ++ y2.drop ((ml.length - i) * 5) := by
      have := setAll_mid (u := (ml.flatMap Mem.C).take (i * 5)) (x := y1) (y := (ml.flatMap Mem.C).drop (i * 5) ++ y2.drop ((ml.length - i) * 5)) (v := m.C) (by rw [hy1]; rfl)
      rw [hl2] at this
      simpa [List.append_assoc] using this
    rw [hset2] at hb23
    have XX : Ext (fun b => b = g) w _ := (X19.none.trans X21).trans X23
    have s : Step (fun j => j = k) w o _ (grow w o) := Step.of_ext XX ok fun b hb _ => by subst hb; exact tg.1
    refine ⟨_, some ⟨g, 0, none⟩, c, rfl, s.mono fun j hj _ => by omega, .inr ⟨k, hk1, Nat.lt_of_lt_of_le hk2 s.size, ?_, fun ad ha => ?_⟩⟩
    · have hlen : (ml.take i ++ m :: ml.drop i).length * 5 = ((ml.flatMap Mem.C).take (i * 5) ++ m.C ++ (ml.flatMap Mem.C).drop (i * 5)).length := by
        rw [← hcells, flat_length Mem.len]
      rw [hcells]
      refine ⟨by rw [← hlen], .inr ⟨g, c, _, rfl, Nat.zero_le _, hb23, by rw [hnew]; omega, hcm, ?_, ?_⟩⟩
      · simp only [List.size_toArray, List.length_append, hl2, Mem.len, hdl, List.length_drop]
        have : y2.length = c * 5 - i * 5 - 5 := by
          have := congrArg List.length hcur2
          rw [List.length_append, hl3, hcl] at this
          omega
        omega
      · rw [hlen]; exact List.take_left
    · cases ha; exact ⟨(s.own tg.2).trans tg.1, Nat.lt_of_lt_of_le tg.2 s.size⟩
end
end Go.Proofs.Ytaifegpikhjiiaa
