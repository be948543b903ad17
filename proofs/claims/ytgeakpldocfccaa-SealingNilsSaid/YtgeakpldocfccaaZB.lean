/- Members: predicates. -/
import Derived.Test.YtgeakpldocfccaaZA
import Derived.Lib.Overlaps
import Derived.Lib.AppendZerosOnto
import Derived.Laws.IdiomCopy
import Derived.Laws.Externs
set_option linter.unusedVariables false
set_option linter.unusedSimpArgs false
set_option maxRecDepth 20000
set_option maxHeartbeats 2000000
namespace Go.Proofs.Ytgeakpldocfccaa
open Go Go.Mx Go.Proofs
open W (OwnB)
def Q0u.M (x1 : Int) (R : RW) (w : World) : Prop :=
 R (.bool (x1 != x1)) w

theorem Q0u.ok (x1 : Int) {R : RW} {w : World} (h : Q0u.M x1 R w) : Calls Try.prog 98 #[.int .i64 x1] w fun e w' => ∃ v, e = .returned v ∧ R v w' :=
  Q0i follows (H := []) (args := [.int .i64 x1]) (cast (by kernel_rfl) h)

def Q0u.N (x1 : Int) (R : RW) (w : World) : Prop :=
 R (.bool (x1 != x1)) w

theorem Q0u.up (x1 : Int) {R : RW} {w : World} (h : Q0u.N x1 R w) : Q0u.M x1 R w := by
  unfold Q0u.M
  unfold Q0u.N at h
  exact h

theorem Q0u.go (x1 : Int) {R : RW} {w : World} (h : Q0u.N x1 R w) : Calls Try.prog 98 #[.int .i64 x1] w fun e w' => ∃ v, e = .returned v ∧ R v w' := Q0u.ok x1 (Q0u.up x1 h)
theorem Q0u.run (x1 : Int) {V : Value} {Q : World → Prop} {w : World} (h : Q0u.N x1 (fun v w' => v = V ∧ Q w') w) : Calls Try.prog 98 #[.int .i64 x1] w (Ret V Q) := (Q0u.go x1 h).mono fun e w' ⟨v, he, hv, hq⟩ => ⟨by rw [he, hv], hq⟩

def Q0u.F (x1 : Int) : Bool :=
  (x1 != x1)
theorem Q0u.pure (x1 : Int) {w : World} : Calls Try.prog 98 #[.int .i64 x1] w (Ret (.bool (Q0u.F x1)) fun w' => Ext no w w') := by
  refine Q0u.run x1 ?_
  unfold Q0u.N
  exact ⟨by unfold Q0u.F; rfl, Ext.refl _ _⟩

def Q0n.M (x1 y2 : Int) (R : RW) (w : World) : Prop :=
 Calls Try.prog 98 #[.int .i64 x1] w fun a4 a5 => ∃ (a1 : Bool), a4 = .returned (.bool a1) ∧
 Calls Try.prog 98 #[.int .i64 y2] a5 fun a3 a2 => ∃ (a0 : Bool), a3 = .returned (.bool a0) ∧
 bif a1 then (
 bif a0 then (
 R (.int .i64 0) a2) else (
 R (.int .i64 (-1)) a2)) else (
 bif a0 then (
 R (.int .i64 1) a2) else (
 bif decide (x1 < y2) then (
 R (.int .i64 (-1)) a2) else (
 bif decide (x1 > y2) then (
 R (.int .i64 1) a2) else (
 R (.int .i64 0) a2))))

theorem Q0n.ok (x1 y2 : Int) {R : RW} {w : World} (h : Q0n.M x1 y2 R w) : Calls Try.prog 94 #[.int .i64 x1, .int .i64 y2] w fun e w' => ∃ v, e = .returned v ∧ R v w' :=
  Q0i follows (H := []) (args := [.int .i64 x1, .int .i64 y2]) (cast (by kernel_rfl) h)

def Q0n.N (x1 y2 : Int) (R : RW) (w : World) : Prop :=
 ((Q0u.F x1) = true →
 ((Q0u.F y2) = true →
 ∀ (a0 : World), Ext no w a0 →
 R (.int .i64 0) a0) ∧
 ((Q0u.F y2) = false →
 ∀ (a0 : World), Ext no w a0 →
 R (.int .i64 (-1)) a0)) ∧
 ((Q0u.F x1) = false →
 ((Q0u.F y2) = true →
 ∀ (a0 : World), Ext no w a0 →
 R (.int .i64 1) a0) ∧
 ((Q0u.F y2) = false →
 (x1 < y2 →
 ∀ (a0 : World), Ext no w a0 →
 R (.int .i64 (-1)) a0) ∧
 (y2 ≤ x1 →
 (x1 > y2 →
 ∀ (a0 : World), Ext no w a0 →
 R (.int .i64 1) a0) ∧
 (x1 ≤ y2 →
 ∀ (a0 : World), Ext no w a0 →
 R (.int .i64 0) a0))))

theorem Q0n.up (x1 y2 : Int) {R : RW} {w : World} (h : Q0n.N x1 y2 R w) : Q0n.M x1 y2 R w := by
  unfold Q0n.M
  unfold Q0n.N at h
  refine (Q0u.pure x1).mono fun ee ww3 ⟨he, hxx⟩ => ⟨(Q0u.F x1), he, ?_⟩
  have a1 := (Ext.refl no w).trans hxx
  refine (Q0u.pure y2).mono fun ee ww4 ⟨he, hxx⟩ => ⟨(Q0u.F y2), he, ?_⟩
  have a0 := a1.trans hxx
  refine bif_of (fun c5 => ?_) (fun c5 => ?_)
  ·have h := h.1 c5
   refine bif_of (fun c6 => ?_) (fun c6 => ?_)
   ·have h := h.1 c6
    have h := h ww4 a0
    exact h
   have h := h.2 c6
   have h := h ww4 a0
   exact h
  have h := h.2 c5
  refine bif_of (fun c7 => ?_) (fun c7 => ?_)
  ·have h := h.1 c7
   have h := h ww4 a0
   exact h
  have h := h.2 c7
  refine bif_of (fun c8 => ?_) (fun c8 => ?_)
  ·have h := h.1 (of_decide_eq_true c8)
   have h := h ww4 a0
   exact h
  have h := h.2 (Int.not_lt.1 (of_decide_eq_false c8))
  refine bif_of (fun c9 => ?_) (fun c9 => ?_)
  ·have h := h.1 (of_decide_eq_true c9)
   have h := h ww4 a0
   exact h
  have h := h.2 (Int.not_lt.1 (of_decide_eq_false c9))
  have h := h ww4 a0
  exact h

theorem Q0n.go (x1 y2 : Int) {R : RW} {w : World} (h : Q0n.N x1 y2 R w) : Calls Try.prog 94 #[.int .i64 x1, .int .i64 y2] w fun e w' => ∃ v, e = .returned v ∧ R v w' := Q0n.ok x1 y2 (Q0n.up x1 y2 h)
theorem Q0n.run (x1 y2 : Int) {V : Value} {Q : World → Prop} {w : World} (h : Q0n.N x1 y2 (fun v w' => v = V ∧ Q w') w) : Calls Try.prog 94 #[.int .i64 x1, .int .i64 y2] w (Ret V Q) := (Q0n.go x1 y2 h).mono fun e w' ⟨v, he, hv, hq⟩ => ⟨by rw [he, hv], hq⟩

def Q0n.F (x1 y2 : Int) : Int :=
  if (Q0u.F x1) = true then
    if (Q0u.F y2) = true then
      0
    else
      (-1)
  else
    if (Q0u.F y2) = true then
      1
    else
      if x1 < y2 then
        (-1)
      else
        if x1 > y2 then
          1
        else
          0
theorem Q0n.pure (x1 y2 : Int) {w : World} : Calls Try.prog 94 #[.int .i64 x1, .int .i64 y2] w (Ret (.int .i64 (Q0n.F x1 y2)) fun w' => Ext no w w') := by
  refine Q0n.run x1 y2 ?_
  unfold Q0n.N
  refine ⟨fun c0 => ?_, fun c0 => ?_⟩
  ·refine ⟨fun c1 => ?_, fun c1 => ?_⟩
   ·intro w' hx; exact ⟨by unfold Q0n.F; rw [if_pos c0, if_pos c1], hx⟩
   ·intro w' hx; exact ⟨by unfold Q0n.F; rw [if_pos c0, if_neg (by rw [c1]; decide)], hx⟩
  ·refine ⟨fun c1 => ?_, fun c1 => ?_⟩
   ·intro w' hx; exact ⟨by unfold Q0n.F; rw [if_neg (by rw [c0]; decide), if_pos c1], hx⟩
   ·refine ⟨fun c2 => ?_, fun c2 => ?_⟩
    ·intro w' hx; exact ⟨by unfold Q0n.F; rw [if_neg (by rw [c0]; decide), if_neg (by rw [c1]; decide), if_pos c2], hx⟩
    ·refine ⟨fun c3 => ?_, fun c3 => ?_⟩
     ·intro w' hx; exact ⟨by unfold Q0n.F; rw [if_neg (by rw [c0]; decide), if_neg (by rw [c1]; decide), if_neg (show ¬ (x1 < y2) from by omega), if_pos c3], hx⟩
     ·intro w' hx; exact ⟨by unfold Q0n.F; rw [if_neg (by rw [c0]; decide), if_neg (by rw [c1]; decide), if_neg (show ¬ (x1 < y2) from by omega), if_neg (show ¬ (x1 > y2) from by omega)], hx⟩

def Q0o.M (a0 : Int) (R : RW) (w : World) : Prop :=
 bif decide (a0 ≥ 0) then (
 R (.bool (decide (a0 < 8))) w) else (
 R (.bool false) w)

theorem Q0o.ok (a0 : Int) {R : RW} {w : World} (h : Q0o.M a0 R w) : Calls Try.prog 79 #[.int .i64 a0] w fun e w' => ∃ v, e = .returned v ∧ R v w' :=
  Q0i follows (H := []) (args := [.int .i64 a0]) (cast (by kernel_rfl) h)

def Q0o.N (a0 : Int) (R : RW) (w : World) : Prop :=
 (a0 ≥ 0 →
 R (.bool (decide (a0 < 8))) w) ∧
 (a0 < 0 →
 R (.bool false) w)

theorem Q0o.up (a0 : Int) {R : RW} {w : World} (h : Q0o.N a0 R w) : Q0o.M a0 R w := by
  unfold Q0o.M
  unfold Q0o.N at h
  refine bif_of (fun c2 => ?_) (fun c2 => ?_)
  ·have h := h.1 (of_decide_eq_true c2)
   exact h
  have h := h.2 (Int.not_le.1 (of_decide_eq_false c2))
  exact h

theorem Q0o.go (a0 : Int) {R : RW} {w : World} (h : Q0o.N a0 R w) : Calls Try.prog 79 #[.int .i64 a0] w fun e w' => ∃ v, e = .returned v ∧ R v w' := Q0o.ok a0 (Q0o.up a0 h)
theorem Q0o.run (a0 : Int) {V : Value} {Q : World → Prop} {w : World} (h : Q0o.N a0 (fun v w' => v = V ∧ Q w') w) : Calls Try.prog 79 #[.int .i64 a0] w (Ret V Q) := (Q0o.go a0 h).mono fun e w' ⟨v, he, hv, hq⟩ => ⟨by rw [he, hv], hq⟩

def Q0o.F (a0 : Int) : Bool :=
  if a0 ≥ 0 then
    (decide (a0 < 8))
  else
    false
theorem Q0o.pure (a0 : Int) {w : World} : Calls Try.prog 79 #[.int .i64 a0] w (Ret (.bool (Q0o.F a0)) fun w' => Ext no w w') := by
  refine Q0o.run a0 ?_
  unfold Q0o.N
  refine ⟨fun c0 => ?_, fun c0 => ?_⟩
  ·exact ⟨by unfold Q0o.F; rw [if_pos c0], Ext.refl _ _⟩
  ·exact ⟨by unfold Q0o.F; rw [if_neg (show ¬ (a0 ≥ 0) from by omega)], Ext.refl _ _⟩

abbrev Q0Y.J1 (j8 j9 : Int) (I0 : Nat → List Value → World → Prop) (aj : Option Addr) (ai m5 : Nat) (R : RW) (a2 : World) : Prop :=
 aj.elim False fun ah =>
 0 ≤ (j9 : Int) ∧ (j9 : Int) < (ai : Int) ∧
 ∃ (a3 : Int) (a7 : Option Addr) (a4 a5 : Nat), cellsAt a2 (ah.add (Int.toNat j9 * 2)) [.int .i64 a3, .slice a7 a4 a5] 0 ∧
 thenW (a2.alloc (.cells #[.int .i64 0, .slice none 0 0] 115)) fun ac =>
 putsK ac (blk a2.heap.size) [.int .i64 a3, .slice a7 a4 a5] 0 fun ab =>
 ∃ (a8 : Int), ab.cell? ((blk a2.heap.size).add 0) = some (.int .i64 a8) ∧
 Calls Try.prog 79 #[.int .i64 a8] ab fun ae a1 => ∃ (a0 : Bool), ae = .returned (.bool a0) ∧
 bif !a0 then (
 R (.bool false) a1) else (
 ∃ (a6 : Int), a1.cell? ((blk a2.heap.size).add 0) = some (.int .i64 a6) ∧
 bif decide (a6 ≤ j8) then (
 R (.bool false) a1) else (
 ∃ (af : Option Addr) (aa ad : Nat), a1.cell? ((blk a2.heap.size).add 1) = some (.slice af aa ad) ∧
 bif (aa : Int) != 16 then (
 R (.bool false) a1) else (
 ∃ (a9 : Int), a1.cell? ((blk a2.heap.size).add 0) = some (.int .i64 a9) ∧
 ∃ ag, ag < m5 ∧ I0 ag [.int .i64 a9, .int .i64 (IntKind.i64.wrap (j9 + 1))] a1)))

def Q0Y.M (a3 : Option Addr) (a1 a4 : Nat) (R : RW) (w : World) : Prop :=
 ∃ (I0 : Nat → List Value → World → Prop) (m4 : Nat), I0 m4 [.int .i64 (-1), .int .i64 0] w ∧ ∀ (m5 : Nat) (a2 : World) (a0 t3 : Int), I0 m5 [.int .i64 a0, .int .i64 t3] a2 →
 bif decide (t3 < (a1 : Int)) then (
 Q0Y.J1 a0 t3 I0 a3 a1 m5 R a2) else (
 R (.bool (decide ((a1 : Int) > 0))) a2)

theorem Q0Y.ok (a2 : Option Addr) (a1 a0 : Nat) {R : RW} {w : World} (h : Q0Y.M a2 a1 a0 R w) : Calls Try.prog 80 #[.slice a2 a1 a0] w fun e w' => ∃ v, e = .returned v ∧ R v w' :=
  Q0i follows (H := [(0, [0, 6, 7], [(3, (.one (.int .i64))), (8, (.one (.int .i64)))])]) (args := [.slice a2 a1 a0]) (cast (by kernel_rfl) h)

def Q0Y.N (aa : Option Addr) (a7 ab : Nat) (R : RW) (w : World) : Prop :=
 ∃ (I0 : Nat → List Value → World → Prop) (m4 : Nat), I0 m4 [.int .i64 (-1), .int .i64 0] w ∧ ∀ (m5 : Nat) (a4 : World) (a3 t3 : Int), I0 m5 [.int .i64 a3, .int .i64 t3] a4 →
 (t3 < (a7 : Int) →
 ∃ a8 : Addr, aa = some a8 ∧
 0 ≤ (t3 : Int) ∧ (t3 : Int) < (a7 : Int) ∧
 ∃ (a0 : Int) (a6 : Option Addr) (a2 a5 : Nat), cellsAt a4 (a8.add (Int.toNat t3 * 2)) [.int .i64 a0, .slice a6 a2 a5] 0 ∧
 ((Q0o.F a0) = false →
 ∀ (a1 : World), Ext no a4 a1 →
 R (.bool false) a1) ∧
 ((Q0o.F a0) = true →
 (a0 ≤ a3 →
 ∀ (a1 : World), Ext no a4 a1 →
 R (.bool false) a1) ∧
 (a3 < a0 →
 ((a2 : Int) ≠ 16 →
 ∀ (a1 : World), Ext no a4 a1 →
 R (.bool false) a1) ∧
 ((a2 : Int) = 16 →
 (-9223372036854775808 : Int) ≤ (t3 + 1) ∧ (t3 + 1) < 9223372036854775808 ∧
 ∀ (a1 : World), Ext no a4 a1 →
 ∃ a9, a9 < m5 ∧ I0 a9 [.int .i64 a0, .int .i64 (t3 + 1)] a1)))) ∧
 ((a7 : Int) ≤ t3 →
 R (.bool (decide ((a7 : Int) > 0))) a4)

theorem Q0Y.up (ai : Option Addr) (af ag : Nat) {R : RW} {w : World} (h : Q0Y.N ai af ag R w) : Q0Y.M ai af ag R w := by
  unfold Q0Y.M
  unfold Q0Y.N at h
  obtain ⟨I0, m4, h0, h⟩ := h
  refine ⟨I0, m4, h0, fun m5 a7 a6 t3 hI => ?_⟩
  have h := h m5 a7 a6 t3 hI
  refine bif_fo (fun c7 => ?_) (fun c7 => ?_)
  ·have h := h.2 (Int.not_lt.1 (of_decide_eq_false c7))
   exact h
  have h := h.1 (of_decide_eq_true c7)
  unfold Q0Y.J1
  obtain ⟨a8, ak, h⟩ := h
  refine Q05 ak ?_
  obtain ⟨av, al, h⟩ := h
  refine ⟨av, al, ?_⟩
  obtain ⟨a0, a2, a3, a1, ap, h⟩ := h
  refine ⟨a0, a2, a3, a1, ap, ?_⟩
  refine Q01 fun aq ah => ?_
  have a5 := Blk.of_new ah
  have aj := ((Ext.refl no a7)).size
  have ac := (Ext.refl no a7).x_alloc ah
  refine Q0p (k := 0) (j := 0) a5 (Nat.le_of_ble_eq_true rfl) fun aa am au => ?_
  have ae := ac.x_puts am (.inr aj)
  have a5 : Blk aa a7.heap.size 115 [.int .i64 a0, .slice a2 a3 a1] := au
  refine ⟨a0, a5.celli 0 rfl rfl, ?_⟩
  refine (Q0o.pure a0).mono fun ee ww14 ⟨he, hxx⟩ => ⟨(Q0o.F a0), he, ?_⟩
  have a4 := ae.trans hxx
  have a5 := a5.ext hxx id
  refine bif_of (fun ad => ?_) (fun ad => ?_)
  ·have h := h.1 (not_t ad)
   have h := h ww14 a4
   exact h
  have h := h.2 (not_f ad)
  refine ⟨a0, a5.celli 0 rfl rfl, ?_⟩
  refine bif_of (fun a9 => ?_) (fun a9 => ?_)
  ·have h := h.1 (of_decide_eq_true a9)
   have h := h ww14 a4
   exact h
  have h := h.2 (Int.not_le.1 (of_decide_eq_false a9))
  refine ⟨a2, a3, a1, a5.celli 1 rfl rfl, ?_⟩
  refine bif_of (fun ab => ?_) (fun ab => ?_)
  ·have h := h.1 (bne_t ab)
   have h := h ww14 a4
   exact h
  have h := h.2 (bne_f ab)
  refine ⟨a0, a5.celli 0 rfl rfl, ?_⟩
  obtain ⟨ar, ao, h⟩ := h
  try rw [w64 ar ao]
  have h := h ww14 a4
  obtain ⟨an, hk, h⟩ := h
  exact ⟨an, hk, h⟩

theorem Q0Y.go (a2 : Option Addr) (a1 a0 : Nat) {R : RW} {w : World} (h : Q0Y.N a2 a1 a0 R w) : Calls Try.prog 80 #[.slice a2 a1 a0] w fun e w' => ∃ v, e = .returned v ∧ R v w' := Q0Y.ok a2 a1 a0 (Q0Y.up a2 a1 a0 h)
theorem Q0Y.run (a2 : Option Addr) (a1 a0 : Nat) {V : Value} {Q : World → Prop} {w : World} (h : Q0Y.N a2 a1 a0 (fun v w' => v = V ∧ Q w') w) : Calls Try.prog 80 #[.slice a2 a1 a0] w (Ret V Q) := (Q0Y.go a2 a1 a0 h).mono fun e w' ⟨v, he, hv, hq⟩ => ⟨by rw [he, hv], hq⟩

def Q10.M (bh bm ay b3 : Int) (az : Option Addr) (ax b0 : Nat) (bj : Option Addr) (be bl : Nat) (R : RW) (w : World) : Prop :=
 thenW (w.alloc (.cells #[.int .i64 bh, .int .i64 bm, .int .u64 ay, .int .i64 b3, .slice az ax b0, .slice bj be bl] 72)) fun br =>
 thenW (br.drew) fun bq =>
 ∃ (bn : Int), bq.cell? ((blk w.heap.size).add 1) = some (.int .i64 bn) ∧
 Calls Try.prog 79 #[.int .i64 bn] bq fun bo b2 => ∃ (a1 : Bool), bo = .returned (.bool a1) ∧
 bif !a1 then (
 R (.bool false) b2) else (
 ∃ (ae : Int), b2.cell? ((blk w.heap.size).add 0) = some (.int .i64 ae) ∧
 ∃ (ad : Option Addr) (ac ab : Nat), b2.cell? ((blk w.heap.size).add 4) = some (.slice ad ac ab) ∧
 Calls Try.prog 80 #[.slice ad ac ab] b2 fun bp a0 => ∃ (aj : Bool), bp = .returned (.bool aj) ∧
 a0.cell? ((blk w.heap.size).add 0) = some (.int .i64 ae) ∧
 bif !((ae == 3) == aj) then (
 R (.bool false) a0) else (
 ∃ (aw : Int), a0.cell? ((blk w.heap.size).add 0) = some (.int .i64 aw) ∧
 bif aw != 3 then (
 ∃ (au : Option Addr) (aa ao : Nat), a0.cell? ((blk w.heap.size).add 4) = some (.slice au aa ao) ∧
 ∃ (bc : Option Addr) (ap bi : Nat), a0.cell? ((blk w.heap.size).add 5) = some (.slice bc ap bi) ∧
 bif decide ((IntKind.i64.wrap ((aa : Int) + (ap : Int))) > 0) then (
 R (.bool false) a0) else (
 ∃ (a3 : Int), a0.cell? ((blk w.heap.size).add 0) = some (.int .i64 a3) ∧
 bif a3 == 1 then (
 ∃ (a8 : Int), a0.cell? ((blk w.heap.size).add 2) = some (.int .u64 a8) ∧
 bif a8 != 0 then (
 ∃ (am : Int), a0.cell? ((blk w.heap.size).add 3) = some (.int .i64 am) ∧
 R (.bool (am == 0)) a0) else (
 R (.bool false) a0)) else (
 bif a3 == 2 then (
 ∃ (b7 : Int), a0.cell? ((blk w.heap.size).add 1) = some (.int .i64 b7) ∧
 bif b7 != 0 then (
 ∃ (a6 : Int), a0.cell? ((blk w.heap.size).add 2) = some (.int .u64 a6) ∧
 bif a6 == 0 then (
 ∃ (ai : Int), a0.cell? ((blk w.heap.size).add 3) = some (.int .i64 ai) ∧
 bif decide (ai ≥ 0) then (
 ∃ (ak : Int), a0.cell? ((blk w.heap.size).add 3) = some (.int .i64 ak) ∧
 R (.bool (decide (ak ≤ 200))) a0) else (
 R (.bool false) a0)) else (
 R (.bool false) a0)) else (
 R (.bool false) a0)) else (
 bif a3 == 3 then (
 ∃ (b4 : Int), a0.cell? ((blk w.heap.size).add 1) = some (.int .i64 b4) ∧
 bif b4 == 0 then (
 ∃ (a7 : Int), a0.cell? ((blk w.heap.size).add 2) = some (.int .u64 a7) ∧
 bif a7 == 0 then (
 ∃ (al : Int), a0.cell? ((blk w.heap.size).add 3) = some (.int .i64 al) ∧
 bif al == 0 then (
 ∃ (bk : Option Addr) (aq ba : Nat), a0.cell? ((blk w.heap.size).add 5) = some (.slice bk aq ba) ∧
 bif (aq : Int) == 0 then (
 R (.bool true) a0) else (
 ∃ (b8 : Option Addr) (av bb : Nat), a0.cell? ((blk w.heap.size).add 5) = some (.slice b8 av bb) ∧
 R (.bool ((av : Int) == 24)) a0)) else (
 R (.bool false) a0)) else (
 R (.bool false) a0)) else (
 R (.bool false) a0)) else (
 R (.bool false) a0))))) else (
 ∃ (a2 : Int), a0.cell? ((blk w.heap.size).add 0) = some (.int .i64 a2) ∧
 bif a2 == 1 then (
 ∃ (a5 : Int), a0.cell? ((blk w.heap.size).add 2) = some (.int .u64 a5) ∧
 bif a5 != 0 then (
 ∃ (af : Int), a0.cell? ((blk w.heap.size).add 3) = some (.int .i64 af) ∧
 R (.bool (af == 0)) a0) else (
 R (.bool false) a0)) else (
 bif a2 == 2 then (
 ∃ (b6 : Int), a0.cell? ((blk w.heap.size).add 1) = some (.int .i64 b6) ∧
 bif b6 != 0 then (
 ∃ (a9 : Int), a0.cell? ((blk w.heap.size).add 2) = some (.int .u64 a9) ∧
 bif a9 == 0 then (
 ∃ (ag : Int), a0.cell? ((blk w.heap.size).add 3) = some (.int .i64 ag) ∧
 bif decide (ag ≥ 0) then (
 ∃ (ah : Int), a0.cell? ((blk w.heap.size).add 3) = some (.int .i64 ah) ∧
 R (.bool (decide (ah ≤ 200))) a0) else (
 R (.bool false) a0)) else (
 R (.bool false) a0)) else (
 R (.bool false) a0)) else (
 bif a2 == 3 then (
 ∃ (b5 : Int), a0.cell? ((blk w.heap.size).add 1) = some (.int .i64 b5) ∧
 bif b5 == 0 then (
 ∃ (a4 : Int), a0.cell? ((blk w.heap.size).add 2) = some (.int .u64 a4) ∧
 bif a4 == 0 then (
 ∃ (an : Int), a0.cell? ((blk w.heap.size).add 3) = some (.int .i64 an) ∧
 bif an == 0 then (
 ∃ (bd : Option Addr) (b1 bf : Nat), a0.cell? ((blk w.heap.size).add 5) = some (.slice bd b1 bf) ∧
 bif (b1 : Int) == 0 then (
 R (.bool true) a0) else (
 ∃ (bg : Option Addr) (ar b9 : Nat), a0.cell? ((blk w.heap.size).add 5) = some (.slice bg ar b9) ∧
 R (.bool ((ar : Int) == 24)) a0)) else (
 R (.bool false) a0)) else (
 R (.bool false) a0)) else (
 R (.bool false) a0)) else (
 R (.bool false) a0))))))

theorem Q10.ok (a7 a9 a0 a4 : Int) (a1 : Option Addr) (a2 a3 : Nat) (a5 : Option Addr) (a8 a6 : Nat) {R : RW} {w : World} (h : Q10.M a7 a9 a0 a4 a1 a2 a3 a5 a8 a6 R w) : Calls Try.prog 50 #[.agg #[.int .i64 a7, .int .i64 a9, .int .u64 a0, .int .i64 a4, .slice a1 a2 a3, .slice a5 a8 a6]] w fun e w' => ∃ v, e = .returned v ∧ R v w' :=
  Q0i follows (H := []) (args := [.agg #[.int .i64 a7, .int .i64 a9, .int .u64 a0, .int .i64 a4, .slice a1 a2 a3, .slice a5 a8 a6]]) (cast (by kernel_rfl) h)

def Q10.N (a1 a6 a0 a2 : Int) (a8 : Option Addr) (a5 a9 : Nat) (ab : Option Addr) (a4 ac : Nat) (R : RW) (w : World) : Prop :=
 ((Q0o.F a6) = false →
 ∀ (aa : World), Ext no w aa →
 R (.bool false) aa) ∧
 ((Q0o.F a6) = true →
 ∀ (aa : World) (ae : Nat), Ext no w aa → Priv w aa [ae] →
 Calls Try.prog 80 #[.slice a8 a5 a9] aa fun ad a3 => ∃ (a7 : Bool), ad = .returned (.bool a7) ∧
 Keep [ae] aa a3 ∧
 ((a1 == 3) ≠ a7 →
 R (.bool false) a3) ∧
 ((a1 == 3) = a7 →
 (a1 ≠ 3 →
 (-9223372036854775808 : Int) ≤ ((a5 : Int) + (a4 : Int)) ∧ ((a5 : Int) + (a4 : Int)) < 9223372036854775808 ∧
 (((a5 : Int) + (a4 : Int)) > 0 →
 R (.bool false) a3) ∧
 (((a5 : Int) + (a4 : Int)) ≤ 0 →
 (a1 = 1 →
 (a0 ≠ 0 →
 R (.bool (a2 == 0)) a3) ∧
 (a0 = 0 →
 R (.bool false) a3)) ∧
 (a1 ≠ 1 →
 (a1 = 2 →
 (a6 ≠ 0 →
 (a0 = 0 →
 (a2 ≥ 0 →
 R (.bool (decide (a2 ≤ 200))) a3) ∧
 (a2 < 0 →
 R (.bool false) a3)) ∧
 (a0 ≠ 0 →
 R (.bool false) a3)) ∧
 (a6 = 0 →
 R (.bool false) a3)) ∧
 (a1 ≠ 2 →
 (a1 = 3 →
 (a6 = 0 →
 (a0 = 0 →
 (a2 = 0 →
 ((a4 : Int) = 0 →
 R (.bool true) a3) ∧
 ((a4 : Int) ≠ 0 →
 R (.bool ((a4 : Int) == 24)) a3)) ∧
 (a2 ≠ 0 →
 R (.bool false) a3)) ∧
 (a0 ≠ 0 →
 R (.bool false) a3)) ∧
 (a6 ≠ 0 →
 R (.bool false) a3)) ∧
 (a1 ≠ 3 →
 R (.bool false) a3))))) ∧
 (a1 = 3 →
 (a1 = 1 →
 (a0 ≠ 0 →
 R (.bool (a2 == 0)) a3) ∧
 (a0 = 0 →
 R (.bool false) a3)) ∧
 (a1 ≠ 1 →
 (a1 = 2 →
 (a6 ≠ 0 →
 (a0 = 0 →
 (a2 ≥ 0 →
 R (.bool (decide (a2 ≤ 200))) a3) ∧
 (a2 < 0 →
 R (.bool false) a3)) ∧
 (a0 ≠ 0 →
 R (.bool false) a3)) ∧
 (a6 = 0 →
 R (.bool false) a3)) ∧
 (a1 ≠ 2 →
 (a1 = 3 →
 (a6 = 0 →
 (a0 = 0 →
 (a2 = 0 →
 ((a4 : Int) = 0 →
 R (.bool true) a3) ∧
 ((a4 : Int) ≠ 0 →
 R (.bool ((a4 : Int) == 24)) a3)) ∧
 (a2 ≠ 0 →
 R (.bool false) a3)) ∧
 (a0 ≠ 0 →
 R (.bool false) a3)) ∧
 (a6 ≠ 0 →
 R (.bool false) a3)) ∧
 (a1 ≠ 3 →
 R (.bool false) a3))))))

theorem Q10.up (aa a6 a1 a0 : Int) (a8 : Option Addr) (a7 a9 : Nat) (a4 : Option Addr) (a3 a5 : Nat) {R : RW} {w : World} (h : Q10.N aa a6 a1 a0 a8 a7 a9 a4 a3 a5 R w) : Q10.M aa a6 a1 a0 a8 a7 a9 a4 a3 a5 R w := by
  unfold Q10.M
  unfold Q10.N at h
  refine Q01 fun bc e7 => ?_
  have a2 := Blk.of_new e7
  have b5 := ((Ext.refl no w)).size
  have b8 := (Ext.refl no w).x_alloc e7
  refine Q01 fun bd e8 => ?_
  have bb := b8.x_drew e8
  have a2 := a2.x_drew e8
  refine ⟨a6, a2.celli 1 rfl rfl, ?_⟩
  refine (Q0o.pure a6).mono fun ee ww9 ⟨he, hxx⟩ => ⟨(Q0o.F a6), he, ?_⟩
  have b4 := bb.trans hxx
  have a2 := a2.ext hxx id
  refine bif_of (fun ai => ?_) (fun ai => ?_)
  ·have h := h.1 (not_t ai)
   have h := h ww9 b4
   exact h
  have h := h.2 (not_f ai)
  refine ⟨aa, a2.celli 0 rfl rfl, ?_⟩
  refine ⟨a8, a7, a9, a2.celli 4 rfl rfl, ?_⟩
  have h := h ww9 (w.heap.size) b4 (Priv.cons b5 a2.lt Priv.nil)
  refine h.mono fun b6 b9 h => ?_
  obtain ⟨ab, he, hk, h⟩ := h
  refine ⟨ab, he, ?_⟩
  have a2 := hk.blk a2 (by simp)
  refine ⟨a2.celli 0 rfl rfl, ?_⟩
  refine bif_of (fun au => ?_) (fun au => ?_)
  ·have h := h.1 (bbeq_f (not_t au))
   exact h
  have h := h.2 (bbeq_t (not_f au))
  refine ⟨aa, a2.celli 0 rfl rfl, ?_⟩
  refine bif_fo (fun ah => ?_) (fun ah => ?_)
  ·have h := h.2 (bne_f ah)
   refine ⟨aa, a2.celli 0 rfl rfl, ?_⟩
   refine bif_of (fun ar => ?_) (fun ar => ?_)
   ·have h := h.1 (beq_t ar)
    refine ⟨a1, a2.celli 2 rfl rfl, ?_⟩
    refine bif_fo (fun ak => ?_) (fun ak => ?_)
    ·have h := h.2 (bne_f ak)
     exact h
    have h := h.1 (bne_t ak)
    refine ⟨a0, a2.celli 3 rfl rfl, ?_⟩
    exact h
   have h := h.2 (beq_f ar)
   refine bif_of (fun ag => ?_) (fun ag => ?_)
   ·have h := h.1 (beq_t ag)
    refine ⟨a6, a2.celli 1 rfl rfl, ?_⟩
    refine bif_fo (fun al => ?_) (fun al => ?_)
    ·have h := h.2 (bne_f al)
     exact h
    have h := h.1 (bne_t al)
    refine ⟨a1, a2.celli 2 rfl rfl, ?_⟩
    refine bif_fo (fun b0 => ?_) (fun b0 => ?_)
    ·have h := h.2 (beq_f b0)
     exact h
    have h := h.1 (beq_t b0)
    refine ⟨a0, a2.celli 3 rfl rfl, ?_⟩
    refine bif_fo (fun ao => ?_) (fun ao => ?_)
    ·have h := h.2 (Int.not_le.1 (of_decide_eq_false ao))
     exact h
    have h := h.1 (of_decide_eq_true ao)
    refine ⟨a0, a2.celli 3 rfl rfl, ?_⟩
    exact h
   have h := h.2 (beq_f ag)
   refine bif_fo (fun b1 => ?_) (fun b1 => ?_)
   ·have h := h.2 (beq_f b1)
    exact h
   have h := h.1 (beq_t b1)
   refine ⟨a6, a2.celli 1 rfl rfl, ?_⟩
   refine bif_fo (fun am => ?_) (fun am => ?_)
   ·have h := h.2 (beq_f am)
    exact h
   have h := h.1 (beq_t am)
   refine ⟨a1, a2.celli 2 rfl rfl, ?_⟩
   refine bif_fo (fun aj => ?_) (fun aj => ?_)
   ·have h := h.2 (beq_f aj)
    exact h
   have h := h.1 (beq_t aj)
   refine ⟨a0, a2.celli 3 rfl rfl, ?_⟩
   refine bif_fo (fun ad => ?_) (fun ad => ?_)
   ·have h := h.2 (beq_f ad)
    exact h
   have h := h.1 (beq_t ad)
   refine ⟨a4, a3, a5, a2.celli 5 rfl rfl, ?_⟩
   refine bif_of (fun ay => ?_) (fun ay => ?_)
   ·have h := h.1 (beq_t ay)
    exact h
   have h := h.2 (beq_f ay)
   refine ⟨a4, a3, a5, a2.celli 5 rfl rfl, ?_⟩
   exact h
  have h := h.1 (bne_t ah)
  refine ⟨a8, a7, a9, a2.celli 4 rfl rfl, ?_⟩
  refine ⟨a4, a3, a5, a2.celli 5 rfl rfl, ?_⟩
  obtain ⟨ba, b7, h⟩ := h
  try rw [w64 ba b7]
  refine bif_of (fun ac => ?_) (fun ac => ?_)
  ·have h := h.1 (of_decide_eq_true ac)
   exact h
  have h := h.2 (Int.not_lt.1 (of_decide_eq_false ac))
  refine ⟨aa, a2.celli 0 rfl rfl, ?_⟩
  refine bif_of (fun ap => ?_) (fun ap => ?_)
  ·have h := h.1 (beq_t ap)
   refine ⟨a1, a2.celli 2 rfl rfl, ?_⟩
   refine bif_fo (fun ae => ?_) (fun ae => ?_)
   ·have h := h.2 (bne_f ae)
    exact h
   have h := h.1 (bne_t ae)
   refine ⟨a0, a2.celli 3 rfl rfl, ?_⟩
   exact h
  have h := h.2 (beq_f ap)
  refine bif_of (fun aq => ?_) (fun aq => ?_)
  ·have h := h.1 (beq_t aq)
   refine ⟨a6, a2.celli 1 rfl rfl, ?_⟩
   refine bif_fo (fun b2 => ?_) (fun b2 => ?_)
   ·have h := h.2 (bne_f b2)
    exact h
   have h := h.1 (bne_t b2)
   refine ⟨a1, a2.celli 2 rfl rfl, ?_⟩
   refine bif_fo (fun av => ?_) (fun av => ?_)
   ·have h := h.2 (beq_f av)
    exact h
   have h := h.1 (beq_t av)
   refine ⟨a0, a2.celli 3 rfl rfl, ?_⟩
   refine bif_fo (fun af => ?_) (fun af => ?_)
   ·have h := h.2 (Int.not_le.1 (of_decide_eq_false af))
    exact h
   have h := h.1 (of_decide_eq_true af)
   refine ⟨a0, a2.celli 3 rfl rfl, ?_⟩
   exact h
  have h := h.2 (beq_f aq)
  refine bif_fo (fun b3 => ?_) (fun b3 => ?_)
  ·have h := h.2 (beq_f b3)
   exact h
  have h := h.1 (beq_t b3)
  refine ⟨a6, a2.celli 1 rfl rfl, ?_⟩
  refine bif_fo (fun az => ?_) (fun az => ?_)
  ·have h := h.2 (beq_f az)
   exact h
  have h := h.1 (beq_t az)
  refine ⟨a1, a2.celli 2 rfl rfl, ?_⟩
  refine bif_fo (fun ax => ?_) (fun ax => ?_)
  ·have h := h.2 (beq_f ax)
   exact h
  have h := h.1 (beq_t ax)
  refine ⟨a0, a2.celli 3 rfl rfl, ?_⟩
  refine bif_fo (fun an => ?_) (fun an => ?_)
  ·have h := h.2 (beq_f an)
   exact h
  have h := h.1 (beq_t an)
  refine ⟨a4, a3, a5, a2.celli 5 rfl rfl, ?_⟩
  refine bif_of (fun aw => ?_) (fun aw => ?_)
  ·have h := h.1 (beq_t aw)
   exact h
  have h := h.2 (beq_f aw)
  refine ⟨a4, a3, a5, a2.celli 5 rfl rfl, ?_⟩
  exact h

theorem Q10.go (a7 a9 a0 a4 : Int) (a1 : Option Addr) (a2 a3 : Nat) (a5 : Option Addr) (a8 a6 : Nat) {R : RW} {w : World} (h : Q10.N a7 a9 a0 a4 a1 a2 a3 a5 a8 a6 R w) : Calls Try.prog 50 #[.agg #[.int .i64 a7, .int .i64 a9, .int .u64 a0, .int .i64 a4, .slice a1 a2 a3, .slice a5 a8 a6]] w fun e w' => ∃ v, e = .returned v ∧ R v w' := Q10.ok a7 a9 a0 a4 a1 a2 a3 a5 a8 a6 (Q10.up a7 a9 a0 a4 a1 a2 a3 a5 a8 a6 h)
theorem Q10.run (a7 a9 a0 a4 : Int) (a1 : Option Addr) (a2 a3 : Nat) (a5 : Option Addr) (a8 a6 : Nat) {V : Value} {Q : World → Prop} {w : World} (h : Q10.N a7 a9 a0 a4 a1 a2 a3 a5 a8 a6 (fun v w' => v = V ∧ Q w') w) : Calls Try.prog 50 #[.agg #[.int .i64 a7, .int .i64 a9, .int .u64 a0, .int .i64 a4, .slice a1 a2 a3, .slice a5 a8 a6]] w (Ret V Q) := (Q10.go a7 a9 a0 a4 a1 a2 a3 a5 a8 a6 h).mono fun e w' ⟨v, he, hv, hq⟩ => ⟨by rw [he, hv], hq⟩

def Q1f.M (a1 : Int) (R : RW) (w : World) : Prop :=
 thenW (w.alloc (.cells #[.slice none 0 0, .int .i64 0] 64)) fun a5 =>
 thenW (a5.alloc (.cells #[.int .i64 0, .int .u64 a1, .int .i64 0, .int .i64 (-1), .int .i64 0] 110)) fun a7 =>
 putsK a7 (blk w.heap.size) [.slice (some (blk a5.heap.size)) 1 1, .int .i64 (-1)] 0 fun a6 =>
 ∃ (a4 : Option Addr) (a2 a3 : Nat) (a0 : Int), cellsAt a6 (blk w.heap.size) [.slice a4 a2 a3, .int .i64 a0] 0 ∧
 R (.agg #[.slice a4 a2 a3, .int .i64 a0]) a6

theorem Q1f.ok (a0 : Int) {R : RW} {w : World} (h : Q1f.M a0 R w) : Calls Try.prog 19 #[.int .u64 a0] w fun e w' => ∃ v, e = .returned v ∧ R v w' :=
  Q0i follows (H := []) (args := [.int .u64 a0]) (cast (by kernel_rfl) h)

def Q1f.N (a0 : Int) (R : RW) (w : World) : Prop :=
 ∀ (a1 : World) (q4 p5 : Nat), Ext no w a1 → Blk a1 q4 110 [.int .i64 0, .int .u64 a0, .int .i64 0, .int .i64 (-1), .int .i64 0] → w.heap.size ≤ q4 → q4 < a1.heap.size → Privq w q4 [p5] →
 ∀ (a2 : World), Ext (fun b => b = p5) a1 a2 →
 R (.agg #[.slice (some (blk q4)) 1 1, .int .i64 (-1)]) a2

theorem Q1f.up (a0 : Int) {R : RW} {w : World} (h : Q1f.N a0 R w) : Q1f.M a0 R w := by
  unfold Q1f.M
  unfold Q1f.N at h
  refine Q01 fun a3 e2 => ?_
  have a1 := Blk.of_new e2
  have a7 := ((Ext.refl no w)).size
  have a5 := (Ext.refl no w).x_alloc e2
  refine Q01 fun a2 e3 => ?_
  have a6 := a1.lt
  have a1 := a1.x_alloc e3
  have h := h a2 a3.heap.size (w.heap.size) (a5.x_alloc e3) (Blk.of_new e3) (a5).size (Q0x e3) (Privq.cons a7 a6 Privq.nil)
  have a8 : Ext (fun b => b = w.heap.size) a2 a2 := ((Ext.refl no a2)).none
  refine Q0p (k := 0) (j := 0) a1 (Nat.le_of_ble_eq_true rfl) fun a4 X6 b6 => ?_
  have a9 := a8.x_puts X6 (.inl rfl)
  have a1 : Blk a4 w.heap.size 64 [.slice (some (blk a3.heap.size)) 1 1, .int .i64 (-1)] := b6
  refine ⟨(some (blk a3.heap.size)), 1, 1, (-1), ⟨a1.celli 0 rfl rfl, a1.celli 1 rfl rfl, trivial⟩, ?_⟩
  have h := h a4 a9
  exact h

theorem Q1f.go (a0 : Int) {R : RW} {w : World} (h : Q1f.N a0 R w) : Calls Try.prog 19 #[.int .u64 a0] w fun e w' => ∃ v, e = .returned v ∧ R v w' := Q1f.ok a0 (Q1f.up a0 h)
def Q0N.M (a6 : Option Addr) (a3 a5 : Nat) (a2 a4 : Int) (R : RW) (w : World) : Prop :=
 thenW (w.alloc (.cells #[.slice a6 a3 a5, .int .i64 a2] 64)) fun a9 =>
 ∃ (a8 : Option Addr) (a7 aa : Nat), a9.cell? ((blk w.heap.size).add 0) = some (.slice a8 a7 aa) ∧
 Calls Try.prog 92 #[.slice a8 a7 aa, .int .i64 a4, .func (.func 93) #[] #[]] a9 fun ab ac => ∃ (a1 : Int) (a0 : Bool), ab = .returned (.tuple #[.int .i64 a1, .bool a0]) ∧
 R (.tuple #[.int .i64 a1, .bool a0]) ac

theorem Q0N.ok (a4 : Option Addr) (a1 a3 : Nat) (a0 a2 : Int) {R : RW} {w : World} (h : Q0N.M a4 a1 a3 a0 a2 R w) : Calls Try.prog 84 #[.agg #[.slice a4 a1 a3, .int .i64 a0], .int .i64 a2] w fun e w' => ∃ v, e = .returned v ∧ R v w' :=
  Q0i follows (H := []) (args := [.agg #[.slice a4 a1 a3, .int .i64 a0], .int .i64 a2]) (cast (by kernel_rfl) h)

def Q0N.N (a6 : Option Addr) (a3 a5 : Nat) (a2 a4 : Int) (R : RW) (w : World) : Prop :=
 ∀ (a7 : World), Ext no w a7 →
 Calls Try.prog 92 #[.slice a6 a3 a5, .int .i64 a4, .func (.func 93) #[] #[]] a7 fun a8 a9 => ∃ (a0 : Int) (a1 : Bool), a8 = .returned (.tuple #[.int .i64 a0, .bool a1]) ∧
 R (.tuple #[.int .i64 a0, .bool a1]) a9

theorem Q0N.up (a5 : Option Addr) (a3 a4 : Nat) (a0 a6 : Int) {R : RW} {w : World} (h : Q0N.N a5 a3 a4 a0 a6 R w) : Q0N.M a5 a3 a4 a0 a6 R w := by
  unfold Q0N.M
  unfold Q0N.N at h
  refine Q01 fun a9 e4 => ?_
  have a7 := Blk.of_new e4
  have aa := ((Ext.refl no w)).size
  have a8 := (Ext.refl no w).x_alloc e4
  refine ⟨a5, a3, a4, a7.celli 0 rfl rfl, ?_⟩
  have h := h a9 a8
  refine h.mono fun ab ac h => ?_
  obtain ⟨a1, a2, he, h⟩ := h
  refine ⟨a1, a2, he, ?_⟩
  exact h

theorem Q0N.go (a4 : Option Addr) (a1 a3 : Nat) (a0 a2 : Int) {R : RW} {w : World} (h : Q0N.N a4 a1 a3 a0 a2 R w) : Calls Try.prog 84 #[.agg #[.slice a4 a1 a3, .int .i64 a0], .int .i64 a2] w fun e w' => ∃ v, e = .returned v ∧ R v w' := Q0N.ok a4 a1 a3 a0 a2 (Q0N.up a4 a1 a3 a0 a2 h)
theorem Q0N.run (a4 : Option Addr) (a1 a3 : Nat) (a0 a2 : Int) {V : Value} {Q : World → Prop} {w : World} (h : Q0N.N a4 a1 a3 a0 a2 (fun v w' => v = V ∧ Q w') w) : Calls Try.prog 84 #[.agg #[.slice a4 a1 a3, .int .i64 a0], .int .i64 a2] w (Ret V Q) := (Q0N.go a4 a1 a3 a0 a2 h).mono fun e w' ⟨v, he, hv, hq⟩ => ⟨by rw [he, hv], hq⟩

def Q0H.M (a5 a1 a3 a8 a2 aa : Int) (R : RW) (w : World) : Prop :=
 thenW (w.alloc (.cells #[.int .i64 a5, .int .u64 a1, .int .i64 a3, .int .i64 a8, .int .i64 a2] 110)) fun a9 =>
 ∃ (a4 : Int), a9.cell? ((blk w.heap.size).add 0) = some (.int .i64 a4) ∧
 Calls Try.prog 94 #[.int .i64 a4, .int .i64 aa] a9 fun a7 a6 => ∃ (a0 : Int), a7 = .returned (.int .i64 a0) ∧
 R (.int .i64 a0) a6

theorem Q0H.ok (a3 a0 a2 a4 a1 a5 : Int) {R : RW} {w : World} (h : Q0H.M a3 a0 a2 a4 a1 a5 R w) : Calls Try.prog 93 #[.agg #[.int .i64 a3, .int .u64 a0, .int .i64 a2, .int .i64 a4, .int .i64 a1], .int .i64 a5] w fun e w' => ∃ v, e = .returned v ∧ R v w' :=
  Q0i follows (H := []) (args := [.agg #[.int .i64 a3, .int .u64 a0, .int .i64 a2, .int .i64 a4, .int .i64 a1], .int .i64 a5]) (cast (by kernel_rfl) h)

def Q0H.N (a1 a0 a3 a6 a2 a5 : Int) (R : RW) (w : World) : Prop :=
 ∀ (a4 : World), Ext no w a4 →
 R (.int .i64 (Q0n.F a1 a5)) a4

theorem Q0H.up (a1 a0 a3 a4 a2 a5 : Int) {R : RW} {w : World} (h : Q0H.N a1 a0 a3 a4 a2 a5 R w) : Q0H.M a1 a0 a3 a4 a2 a5 R w := by
  unfold Q0H.M
  unfold Q0H.N at h
  refine Q01 fun aa e7 => ?_
  have a7 := Blk.of_new e7
  have a9 := ((Ext.refl no w)).size
  have a8 := (Ext.refl no w).x_alloc e7
  refine ⟨a1, a7.celli 0 rfl rfl, ?_⟩
  refine (Q0n.pure a1 a5).mono fun ee ww8 ⟨he, hxx⟩ => ⟨(Q0n.F a1 a5), he, ?_⟩
  have a6 := a8.trans hxx
  have h := h ww8 a6
  exact h

theorem Q0H.go (a3 a0 a2 a4 a1 a5 : Int) {R : RW} {w : World} (h : Q0H.N a3 a0 a2 a4 a1 a5 R w) : Calls Try.prog 93 #[.agg #[.int .i64 a3, .int .u64 a0, .int .i64 a2, .int .i64 a4, .int .i64 a1], .int .i64 a5] w fun e w' => ∃ v, e = .returned v ∧ R v w' := Q0H.ok a3 a0 a2 a4 a1 a5 (Q0H.up a3 a0 a2 a4 a1 a5 h)
theorem Q0H.run (a3 a0 a2 a4 a1 a5 : Int) {V : Value} {Q : World → Prop} {w : World} (h : Q0H.N a3 a0 a2 a4 a1 a5 (fun v w' => v = V ∧ Q w') w) : Calls Try.prog 93 #[.agg #[.int .i64 a3, .int .u64 a0, .int .i64 a2, .int .i64 a4, .int .i64 a1], .int .i64 a5] w (Ret V Q) := (Q0H.go a3 a0 a2 a4 a1 a5 h).mono fun e w' ⟨v, he, hv, hq⟩ => ⟨by rw [he, hv], hq⟩

def Q0D.M (a5 a0 a4 aa a1 a6 : Int) (ab : Option Addr) (a7 a9 : Nat) (R : RW) (w : World) : Prop :=
 thenW (w.alloc (.cells #[.int .i64 a5, .int .u64 a0, .int .i64 a4, .int .i64 aa, .int .i64 a1] 110)) fun ac =>
 thenW (ac.alloc (.cells #[.int .i64 a6, .slice ab a7 a9] 115)) fun a8 =>
 ∃ (a3 : Int), a8.cell? ((blk w.heap.size).add 0) = some (.int .i64 a3) ∧
 ∃ (a2 : Int), a8.cell? ((blk ac.heap.size).add 0) = some (.int .i64 a2) ∧
 R (.bool (a3 == a2)) a8

theorem Q0D.ok (a3 a0 a2 a7 a1 a4 : Int) (a8 : Option Addr) (a5 a6 : Nat) {R : RW} {w : World} (h : Q0D.M a3 a0 a2 a7 a1 a4 a8 a5 a6 R w) : Calls Try.prog 82 #[.agg #[.int .i64 a3, .int .u64 a0, .int .i64 a2, .int .i64 a7, .int .i64 a1], .agg #[.int .i64 a4, .slice a8 a5 a6]] w fun e w' => ∃ v, e = .returned v ∧ R v w' :=
  Q0i follows (H := []) (args := [.agg #[.int .i64 a3, .int .u64 a0, .int .i64 a2, .int .i64 a7, .int .i64 a1], .agg #[.int .i64 a4, .slice a8 a5 a6]]) (cast (by kernel_rfl) h)

def Q0D.N (a1 a0 a4 a8 a3 a2 : Int) (a9 : Option Addr) (a6 a7 : Nat) (R : RW) (w : World) : Prop :=
 ∀ (a5 : World), Ext no w a5 →
 R (.bool (a1 == a2)) a5

theorem Q0D.up (a2 a0 a3 a7 a1 a4 : Int) (a8 : Option Addr) (a5 a6 : Nat) {R : RW} {w : World} (h : Q0D.N a2 a0 a3 a7 a1 a4 a8 a5 a6 R w) : Q0D.M a2 a0 a3 a7 a1 a4 a8 a5 a6 R w := by
  unfold Q0D.M
  unfold Q0D.N at h
  refine Q01 fun af e8 => ?_
  have a9 := Blk.of_new e8
  have ag := ((Ext.refl no w)).size
  have aa := (Ext.refl no w).x_alloc e8
  refine Q01 fun ad e9 => ?_
  have ac := Blk.of_new e9
  have ah := (aa).size
  have ab := Nat.ne_of_lt a9.lt
  have a9 := a9.x_alloc e9
  have ae := aa.x_alloc e9
  refine ⟨a2, a9.celli 0 rfl rfl, ?_⟩
  refine ⟨a4, ac.celli 0 rfl rfl, ?_⟩
  have h := h ad ae
  exact h

theorem Q0D.go (a3 a0 a2 a7 a1 a4 : Int) (a8 : Option Addr) (a5 a6 : Nat) {R : RW} {w : World} (h : Q0D.N a3 a0 a2 a7 a1 a4 a8 a5 a6 R w) : Calls Try.prog 82 #[.agg #[.int .i64 a3, .int .u64 a0, .int .i64 a2, .int .i64 a7, .int .i64 a1], .agg #[.int .i64 a4, .slice a8 a5 a6]] w fun e w' => ∃ v, e = .returned v ∧ R v w' := Q0D.ok a3 a0 a2 a7 a1 a4 a8 a5 a6 (Q0D.up a3 a0 a2 a7 a1 a4 a8 a5 a6 h)
theorem Q0D.run (a3 a0 a2 a7 a1 a4 : Int) (a8 : Option Addr) (a5 a6 : Nat) {V : Value} {Q : World → Prop} {w : World} (h : Q0D.N a3 a0 a2 a7 a1 a4 a8 a5 a6 (fun v w' => v = V ∧ Q w') w) : Calls Try.prog 82 #[.agg #[.int .i64 a3, .int .u64 a0, .int .i64 a2, .int .i64 a7, .int .i64 a1], .agg #[.int .i64 a4, .slice a8 a5 a6]] w (Ret V Q) := (Q0D.go a3 a0 a2 a7 a1 a4 a8 a5 a6 h).mono fun e w' ⟨v, he, hv, hq⟩ => ⟨by rw [he, hv], hq⟩

abbrev Q0F.J1 (bj : Int) (ba bb ar : Addr) (R : RW) (bg : World) : Prop :=
 thenW (bg.drew) fun ai =>
 ∃ (aw : Option Addr) (av au : Nat), ai.cell? (ar.add 0) = some (.slice aw av au) ∧
 ∃ (al : Int), ai.cell? (bb.add 1) = some (.int .i64 al) ∧
 ∃ (a0 : Int), ai.cell? (bb.add 2) = some (.int .u64 a0) ∧
 ∃ (a1 : Int), ai.cell? (ar.add 1) = some (.int .i64 a1) ∧
 (Calls Try.prog 83 #[.slice aw av au] ai fun be aq => ∃ (aa : Option Addr) (ag ae : Nat), be = .returned (.slice aa ag ae) ∧
 aq.cell? (ar.add 1) = some (.int .i64 a1) ∧
 aq.cell? (bb.add 2) = some (.int .u64 a0) ∧
 aq.cell? (bb.add 1) = some (.int .i64 al) ∧
 thenW (aq.alloc (.cells #[.int .i64 al, .int .u64 a0, .int .i64 (IntKind.i64.wrap (a1 + 1)), .int .i64 (-1), .int .i64 0] 110)) fun bf =>
 Calls Try.prog 85 #[.slice aa ag ae, .int .i64 bj, .slice (some (blk aq.heap.size)) 1 1] bf fun bh b4 => ∃ (a5 : Option Addr) (a7 a8 : Nat), bh = .returned (.slice a5 a7 a8) ∧
 Q0d b4 ((ar.add 0).add 0) ∧
 thenW (b4.setCell ((ar.add 0).add 0) (.slice a5 a7 a8)) fun b6 =>
 ∃ (b1 : Option Addr) (az ay : Nat) (ab : Int), cellsAt b6 ar [.slice b1 az ay, .int .i64 ab] 0 ∧
 putsK b6 ba [.slice b1 az ay, .int .i64 ab] 0 fun b5 =>
 ∃ (am : Option Addr) (ao ap : Nat) (a3 : Int), cellsAt b5 ba [.slice am ao ap, .int .i64 a3] 0 ∧
 R (.tuple #[.agg #[.slice am ao ap, .int .i64 a3], .int .i64 0]) b5) ∧
 (thenW (ai.alloc (.cells #[.int .i64 al, .int .u64 a0, .int .i64 (IntKind.i64.wrap (a1 + 1)), .int .i64 (-1), .int .i64 0] 110)) fun b3 =>
 b3.cell? (ar.add 0) = some (.slice aw av au) ∧
 Calls Try.prog 83 #[.slice aw av au] b3 fun bi bc => ∃ (af : Option Addr) (ac ah : Nat), bi = .returned (.slice af ac ah) ∧
 Calls Try.prog 85 #[.slice af ac ah, .int .i64 bj, .slice (some (blk ai.heap.size)) 1 1] bc fun bd b7 => ∃ (a9 : Option Addr) (a6 a4 : Nat), bd = .returned (.slice a9 a6 a4) ∧
 Q0d b7 ((ar.add 0).add 0) ∧
 thenW (b7.setCell ((ar.add 0).add 0) (.slice a9 a6 a4)) fun b9 =>
 ∃ (ax : Option Addr) (b2 b0 : Nat) (ad : Int), cellsAt b9 ar [.slice ax b2 b0, .int .i64 ad] 0 ∧
 putsK b9 ba [.slice ax b2 b0, .int .i64 ad] 0 fun b8 =>
 ∃ (ak : Option Addr) (aj an : Nat) (a2 : Int), cellsAt b8 ba [.slice ak aj an, .int .i64 a2] 0 ∧
 R (.tuple #[.agg #[.slice ak aj an, .int .i64 a2], .int .i64 0]) b8)

def Q0F.M (aw : Option Addr) (ar au : Nat) (ab am an a8 ac : Int) (a7 : Option Addr) (a9 aa : Nat) (aj : Option Addr) (ai ak : Nat) (R : RW) (w : World) : Prop :=
 thenW (w.alloc (.cells #[.slice aw ar au, .int .i64 ab] 64)) fun av =>
 thenW (av.alloc (.cells #[.int .i64 am, .int .i64 an, .int .u64 a8, .int .i64 ac, .slice a7 a9 aa, .slice aj ai ak] 72)) fun ad =>
 thenW (ad.alloc (.cells #[.slice none 0 0, .int .i64 0] 64)) fun al =>
 ∃ (af : Option Addr) (ag ae : Nat) (a1 : Int), cellsAt al (blk w.heap.size) [.slice af ag ae, .int .i64 a1] 0 ∧
 ∃ (ah : Int), al.cell? ((blk av.heap.size).add 1) = some (.int .i64 ah) ∧
 Calls Try.prog 84 #[.agg #[.slice af ag ae, .int .i64 a1], .int .i64 ah] al fun aq ap => ∃ (a5 : Int) (a6 : Bool), aq = .returned (.tuple #[.int .i64 a5, .bool a6]) ∧
 bif a6 then (
 putsK ap (blk ad.heap.size) [.slice none 0 0, .int .i64 0] 0 fun ao =>
 ∃ (a2 : Option Addr) (a3 a4 : Nat) (a0 : Int), cellsAt ao (blk ad.heap.size) [.slice a2 a3 a4, .int .i64 a0] 0 ∧
 R (.tuple #[.agg #[.slice a2 a3 a4, .int .i64 a0], .int .i64 13]) ao) else (
 Q0F.J1 a5 (blk ad.heap.size) (blk av.heap.size) (blk w.heap.size) R ap)

theorem Q0F.ok (ad : Option Addr) (ab ac : Nat) (a4 a9 aa a0 a5 : Int) (a2 : Option Addr) (a1 a3 : Nat) (a7 : Option Addr) (a8 a6 : Nat) {R : RW} {w : World} (h : Q0F.M ad ab ac a4 a9 aa a0 a5 a2 a1 a3 a7 a8 a6 R w) : Calls Try.prog 52 #[.agg #[.slice ad ab ac, .int .i64 a4], .agg #[.int .i64 a9, .int .i64 aa, .int .u64 a0, .int .i64 a5, .slice a2 a1 a3, .slice a7 a8 a6]] w fun e w' => ∃ v, e = .returned v ∧ R v w' :=
  Q0i follows (H := []) (args := [.agg #[.slice ad ab ac, .int .i64 a4], .agg #[.int .i64 a9, .int .i64 aa, .int .u64 a0, .int .i64 a5, .slice a2 a1 a3, .slice a7 a8 a6]]) (cast (by kernel_rfl) h)

def Q0F.N (am : Option Addr) (an aq : Nat) (a3 b8 ad aa b0 : Int) (av : Option Addr) (ax ay : Nat) (b3 : Option Addr) (b2 b9 : Nat) (R : RW) (w : World) : Prop :=
 ∀ (aj : World) (al b5 ak : Nat), Ext no w aj → Priv w aj [al, b5, ak] →
 Calls Try.prog 84 #[.agg #[.slice am an aq, .int .i64 a3], .int .i64 ad] aj fun b4 ai => ∃ (ab : Int) (ac : Bool), b4 = .returned (.tuple #[.int .i64 ab, .bool ac]) ∧
 Keep [al, b5, ak] aj ai ∧
 (ac = true →
 ∀ (aw : World), Ext (fun b => b = ak) ai aw →
 R (.tuple #[.agg #[.slice none 0 0, .int .i64 0], .int .i64 13]) aw) ∧
 (ac = false →
 (-9223372036854775808 : Int) ≤ (a3 + 1) ∧ (a3 + 1) < 9223372036854775808 ∧
 (∀ (ar : World), Ext no ai ar →
 Calls Try.prog 83 #[.slice am an aq] ar fun b7 au => ∃ (a9 : Option Addr) (a6 a7 : Nat), b7 = .returned (.slice a9 a6 a7) ∧
 Keep [al, b5, ak] ar au ∧
 ∀ (ae : World) (b1 : Nat), Ext no au ae → Blk ae b1 110 [.int .i64 ad, .int .u64 aa, .int .i64 (a3 + 1), .int .i64 (-1), .int .i64 0] → au.heap.size ≤ b1 → b1 < ae.heap.size →
 Calls Try.prog 85 #[.slice a9 a6 a7, .int .i64 ab, .slice (some (blk b1)) 1 1] ae fun ap ag => ∃ (a0 : Option Addr) (a2 a1 : Nat), ap = .returned (.slice a0 a2 a1) ∧
 Keep [al, ak] ae ag ∧
 ∀ (ah : World), Ext (fun b => b = ak ∨ b = al) ag ah →
 R (.tuple #[.agg #[.slice a0 a2 a1, .int .i64 a3], .int .i64 0]) ah) ∧
 (∀ (af : World) (az : Nat), Ext no ai af → Blk af az 110 [.int .i64 ad, .int .u64 aa, .int .i64 (a3 + 1), .int .i64 (-1), .int .i64 0] → ai.heap.size ≤ az → az < af.heap.size →
 Calls Try.prog 83 #[.slice am an aq] af fun b6 ao => ∃ (a4 : Option Addr) (a8 a5 : Nat), b6 = .returned (.slice a4 a8 a5) ∧
 Keep [al, ak] af ao ∧
 Calls Try.prog 85 #[.slice a4 a8 a5, .int .i64 ab, .slice (some (blk az)) 1 1] ao fun ap ag => ∃ (a0 : Option Addr) (a2 a1 : Nat), ap = .returned (.slice a0 a2 a1) ∧
 Keep [al, ak] ao ag ∧
 ∀ (ah : World), Ext (fun b => b = ak ∨ b = al) ag ah →
 R (.tuple #[.agg #[.slice a0 a2 a1, .int .i64 a3], .int .i64 0]) ah))

theorem Q0F.up (av : Option Addr) (ar au : Nat) (a3 ap ad a6 ae : Int) (a8 : Option Addr) (a9 aa : Nat) (ai : Option Addr) (ag am : Nat) {R : RW} {w : World} (h : Q0F.N av ar au a3 ap ad a6 ae a8 a9 aa ai ag am R w) : Q0F.M av ar au a3 ap ad a6 ae a8 a9 aa ai ag am R w := by
  unfold Q0F.M
  unfold Q0F.N at h
  refine Q01 fun bv e9 => ?_
  have a4 := Blk.of_new e9
  have bs := ((Ext.refl no w)).size
  have bp := (Ext.refl no w).x_alloc e9
  refine Q01 fun ab bm => ?_
  have ac := Blk.of_new bm
  have bu := (bp).size
  have br := Nat.ne_of_lt a4.lt
  have a4 := a4.x_alloc bm
  have b7 := bp.x_alloc bm
  refine Q01 fun bk bd => ?_
  have a5 := Blk.of_new bd
  have c3 := (b7).size
  have aw := Nat.ne_of_lt a4.lt
  have a4 := a4.x_alloc bd
  have bq := Nat.ne_of_lt ac.lt
  have ac := ac.x_alloc bd
  have bj := b7.x_alloc bd
  refine ⟨av, ar, au, a3, ⟨a4.celli 0 rfl rfl, a4.celli 1 rfl rfl, trivial⟩, ?_⟩
  refine ⟨ad, ac.celli 1 rfl rfl, ?_⟩
  have h := h bk (w.heap.size) (bv.heap.size) (ab.heap.size) bj (Priv.cons bs a4.lt (Priv.cons bu ac.lt (Priv.cons c3 a5.lt Priv.nil)))
  refine h.mono fun bx aq h => ?_
  obtain ⟨b2, b3, he, hk, h⟩ := h
  refine ⟨b2, b3, he, ?_⟩
  have a4 := hk.blk a4 (by simp)
  have ac := hk.blk ac (by simp)
  have a5 := hk.blk a5 (by simp)
  refine bif_of (fun bi => ?_) (fun bi => ?_)
  ·have h := h.1 bi
   have bo : Ext (fun b => b = ab.heap.size) aq aq := ((Ext.refl no aq)).none
   refine Q0p (k := 0) (j := 0) a5 (Nat.le_of_ble_eq_true rfl) fun b9 bt bw => ?_
   have bl := bo.x_puts bt (.inl rfl)
   have a5 : Blk b9 ab.heap.size 64 [.slice none 0 0, .int .i64 0] := bw
   refine ⟨none, 0, 0, 0, ⟨a5.celli 0 rfl rfl, a5.celli 1 rfl rfl, trivial⟩, ?_⟩
   have h := h b9 bl
   exact h
  have h := h.2 bi
  unfold Q0F.J1
  refine Q01 fun bb bc => ?_
  have b1 := (Ext.refl no aq).x_drew bc
  have a4 := a4.x_drew bc
  have ac := ac.x_drew bc
  have a5 := a5.x_drew bc
  refine ⟨av, ar, au, a4.celli 0 rfl rfl, ?_⟩
  refine ⟨ad, ac.celli 1 rfl rfl, ?_⟩
  refine ⟨a6, ac.celli 2 rfl rfl, ?_⟩
  refine ⟨a3, a4.celli 1 rfl rfl, ?_⟩
  obtain ⟨c0, bz, h⟩ := h
  try rw [w64 c0 bz]
  obtain ⟨h0', h1'⟩ := h
  refine ⟨?_, ?_⟩
  ·have h := h0'
   have h := h bb b1
   refine h.mono fun c4 b6 h => ?_
   obtain ⟨ao, aj, ak, he, hk, h⟩ := h
   refine ⟨ao, aj, ak, he, ?_⟩
   have a4 := hk.blk a4 (by simp)
   have ac := hk.blk ac (by simp)
   have a5 := hk.blk a5 (by simp)
   refine ⟨a4.celli 1 rfl rfl, ac.celli 2 rfl rfl, ac.celli 1 rfl rfl, ?_⟩
   refine Q01 fun bg ba => ?_
   have a4 := a4.x_alloc ba
   have a5 := a5.x_alloc ba
   have h := h bg b6.heap.size ((Ext.refl no b6).x_alloc ba) (Blk.of_new ba) ((Ext.refl no b6)).size (Q0x ba)
   refine h.mono fun bn a7 h => ?_
   obtain ⟨a0, a2, a1, he, hk, h⟩ := h
   refine ⟨a0, a2, a1, he, ?_⟩
   have a4 := hk.blk a4 (by simp)
   have a5 := hk.blk a5 (by simp)
   have ay : Ext (fun b => b = w.heap.size) a7 a7 := ((Ext.refl no a7)).none
   refine ⟨a4.cani 0 rfl rfl, Q01 fun b4 b5 => ?_⟩
   have b0 := ay.x_set (q := w.heap.size) (i := 0) rfl (.inl rfl) b5
   have a4 := a4.seti 0 rfl b5
   have a5 := a5.oth (q := w.heap.size) (i := 0) rfl (Ne.symm aw) b5
   refine ⟨a0, a2, a1, a3, ⟨a4.celli 0 rfl rfl, a4.celli 1 rfl rfl, trivial⟩, ?_⟩
   have az : Ext (fun b => b = ab.heap.size ∨ b = w.heap.size) a7 b4 := (b0).mono fun _ h _ => .inr h
   refine Q0p (k := 0) (j := 0) a5 (Nat.le_of_ble_eq_true rfl) fun al bf be => ?_
   have ax := az.x_puts bf (.inl (.inl rfl))
   have a5 : Blk al ab.heap.size 64 [.slice a0 a2 a1, .int .i64 a3] := be
   refine ⟨a0, a2, a1, a3, ⟨a5.celli 0 rfl rfl, a5.celli 1 rfl rfl, trivial⟩, ?_⟩
   have h := h al ax
   exact h
  have h := h1'
  refine Q01 fun bh b8 => ?_
  have a4 := a4.x_alloc b8
  have a5 := a5.x_alloc b8
  have h := h bh bb.heap.size (b1.x_alloc b8) (Blk.of_new b8) (b1).size (Q0x b8)
  refine ⟨a4.celli 0 rfl rfl, ?_⟩
  refine h.mono fun c1 c2 h => ?_
  obtain ⟨af, an, ah, he, hk, h⟩ := h
  refine ⟨af, an, ah, he, ?_⟩
  have a4 := hk.blk a4 (by simp)
  have a5 := hk.blk a5 (by simp)
  refine h.mono fun bn a7 h => ?_
  obtain ⟨a0, a2, a1, he, hk, h⟩ := h
  refine ⟨a0, a2, a1, he, ?_⟩
  have a4 := hk.blk a4 (by simp)
  have a5 := hk.blk a5 (by simp)
  have ay : Ext (fun b => b = w.heap.size) a7 a7 := ((Ext.refl no a7)).none
  refine ⟨a4.cani 0 rfl rfl, Q01 fun b4 b5 => ?_⟩
  have b0 := ay.x_set (q := w.heap.size) (i := 0) rfl (.inl rfl) b5
  have a4 := a4.seti 0 rfl b5
  have a5 := a5.oth (q := w.heap.size) (i := 0) rfl (Ne.symm aw) b5
  refine ⟨a0, a2, a1, a3, ⟨a4.celli 0 rfl rfl, a4.celli 1 rfl rfl, trivial⟩, ?_⟩
  have az : Ext (fun b => b = ab.heap.size ∨ b = w.heap.size) a7 b4 := (b0).mono fun _ h _ => .inr h
  refine Q0p (k := 0) (j := 0) a5 (Nat.le_of_ble_eq_true rfl) fun al bf be => ?_
  have ax := az.x_puts bf (.inl (.inl rfl))
  have a5 : Blk al ab.heap.size 64 [.slice a0 a2 a1, .int .i64 a3] := be
  refine ⟨a0, a2, a1, a3, ⟨a5.celli 0 rfl rfl, a5.celli 1 rfl rfl, trivial⟩, ?_⟩
  have h := h al ax
  exact h

theorem Q0F.go (ad : Option Addr) (ab ac : Nat) (a4 a9 aa a0 a5 : Int) (a2 : Option Addr) (a1 a3 : Nat) (a7 : Option Addr) (a8 a6 : Nat) {R : RW} {w : World} (h : Q0F.N ad ab ac a4 a9 aa a0 a5 a2 a1 a3 a7 a8 a6 R w) : Calls Try.prog 52 #[.agg #[.slice ad ab ac, .int .i64 a4], .agg #[.int .i64 a9, .int .i64 aa, .int .u64 a0, .int .i64 a5, .slice a2 a1 a3, .slice a7 a8 a6]] w fun e w' => ∃ v, e = .returned v ∧ R v w' := Q0F.ok ad ab ac a4 a9 aa a0 a5 a2 a1 a3 a7 a8 a6 (Q0F.up ad ab ac a4 a9 aa a0 a5 a2 a1 a3 a7 a8 a6 h)
abbrev Q0m.J1 (an ai am : Addr) (R : RW) (aa : World) : Prop :=
 ∃ (ab : Int), aa.cell? (am.add 1) = some (.int .i64 ab) ∧
 bif decide (ab < 0) then (
 Q0d aa ((an.add 3).add 0) ∧
 thenW (aa.setCell ((an.add 3).add 0) (.int .i64 (-2))) fun al =>
 ∃ (af : Option Addr) (ah ag : Nat) (a2 : Int), cellsAt al am [.slice af ah ag, .int .i64 a2] 0 ∧
 putsK al ai [.slice af ah ag, .int .i64 a2] 0 fun aj =>
 ∃ (a6 : Option Addr) (a4 a5 : Nat) (a0 : Int), cellsAt aj ai [.slice a6 a4 a5, .int .i64 a0] 0 ∧
 R (.tuple #[.agg #[.slice a6 a4 a5, .int .i64 a0], .int .i64 0]) aj) else (
 ∃ (ae : Option Addr) (ac ad : Nat) (a3 : Int), cellsAt aa am [.slice ae ac ad, .int .i64 a3] 0 ∧
 putsK aa ai [.slice ae ac ad, .int .i64 a3] 0 fun ak =>
 ∃ (a9 : Option Addr) (a7 a8 : Nat) (a1 : Int), cellsAt ak ai [.slice a9 a7 a8, .int .i64 a1] 0 ∧
 R (.tuple #[.agg #[.slice a9 a7 a8, .int .i64 a1], .int .i64 0]) ak)

abbrev Q0m.J2 (ag : Int) (am al ah : Addr) (R : RW) (a8 : World) : Prop :=
 ∃ (af : Option Addr) (ac aa : Nat), a8.cell? (ah.add 0) = some (.slice af ac aa) ∧
 Calls Try.prog 83 #[.slice af ac aa] a8 fun ai ad => ∃ (a3 : Option Addr) (a1 a2 : Nat), ai = .returned (.slice a3 a1 a2) ∧
 Q0d ad ((ah.add 0).add 0) ∧
 thenW (ad.setCell ((ah.add 0).add 0) (.slice a3 a1 a2)) fun ae =>
 ∃ (ab : Option Addr) (a9 aj : Nat), ae.cell? (ah.add 0) = some (.slice ab a9 aj) ∧
 ab.elim False fun a6 =>
 0 ≤ (ag : Int) ∧ (ag : Int) < (a9 : Int) ∧
 thenW (ae.drew) fun a5 =>
 ∃ (a4 : Int), a5.cell? (ah.add 1) = some (.int .i64 a4) ∧
 ∃ (a0 : Int), a5.cell? (al.add 3) = some (.int .i64 a0) ∧
 Q0d a5 (((a6.add (Int.toNat ag * 5)).add 3).add 0) ∧
 thenW (a5.setCell (((a6.add (Int.toNat ag * 5)).add 3).add 0) (.int .i64 a4)) fun a7 =>
 a7.cell? (al.add 3) = some (.int .i64 a0) ∧
 Q0d a7 (((a6.add (Int.toNat ag * 5)).add 4).add 0) ∧
 thenW (a7.setCell (((a6.add (Int.toNat ag * 5)).add 4).add 0) (.int .i64 a0)) fun ak =>
 Q0m.J1 (a6.add (Int.toNat ag * 5)) am ah R ak

abbrev Q0m.J3 (a9 : Int) (aa ae ac : Addr) (R : RW) (a4 : World) : Prop :=
 ∃ (a8 : Option Addr) (a7 ab : Nat), a4.cell? (ac.add 0) = some (.slice a8 a7 ab) ∧
 a8.elim False fun ad =>
 0 ≤ (a9 : Int) ∧ (a9 : Int) < (a7 : Int) ∧
 ∃ (a6 : Int), a4.cell? ((ad.add (Int.toNat a9 * 5)).add 3) = some (.int .i64 a6) ∧
 bif a6 != (-1) then (
 putsK a4 aa [.slice none 0 0, .int .i64 0] 0 fun a5 =>
 ∃ (a3 : Option Addr) (a1 a2 : Nat) (a0 : Int), cellsAt a5 aa [.slice a3 a1 a2, .int .i64 a0] 0 ∧
 R (.tuple #[.agg #[.slice a3 a1 a2, .int .i64 a0], .int .i64 10]) a5) else (
 Q0m.J2 a9 aa ae ac R a4)

def Q0m.M (aw : Option Addr) (ar au : Nat) (ab am an a8 ac : Int) (a7 : Option Addr) (a9 aa : Nat) (aj : Option Addr) (ai ak : Nat) (R : RW) (w : World) : Prop :=
 thenW (w.alloc (.cells #[.slice aw ar au, .int .i64 ab] 64)) fun av =>
 thenW (av.alloc (.cells #[.int .i64 am, .int .i64 an, .int .u64 a8, .int .i64 ac, .slice a7 a9 aa, .slice aj ai ak] 72)) fun ad =>
 thenW (ad.alloc (.cells #[.slice none 0 0, .int .i64 0] 64)) fun al =>
 ∃ (af : Option Addr) (ag ae : Nat) (a1 : Int), cellsAt al (blk w.heap.size) [.slice af ag ae, .int .i64 a1] 0 ∧
 ∃ (ah : Int), al.cell? ((blk av.heap.size).add 1) = some (.int .i64 ah) ∧
 Calls Try.prog 84 #[.agg #[.slice af ag ae, .int .i64 a1], .int .i64 ah] al fun aq ap => ∃ (a5 : Int) (a6 : Bool), aq = .returned (.tuple #[.int .i64 a5, .bool a6]) ∧
 bif !a6 then (
 putsK ap (blk ad.heap.size) [.slice none 0 0, .int .i64 0] 0 fun ao =>
 ∃ (a2 : Option Addr) (a3 a4 : Nat) (a0 : Int), cellsAt ao (blk ad.heap.size) [.slice a2 a3 a4, .int .i64 a0] 0 ∧
 R (.tuple #[.agg #[.slice a2 a3 a4, .int .i64 a0], .int .i64 20]) ao) else (
 Q0m.J3 a5 (blk ad.heap.size) (blk av.heap.size) (blk w.heap.size) R ap)

theorem Q0m.ok (ad : Option Addr) (ab ac : Nat) (a4 a9 aa a0 a5 : Int) (a2 : Option Addr) (a1 a3 : Nat) (a7 : Option Addr) (a8 a6 : Nat) {R : RW} {w : World} (h : Q0m.M ad ab ac a4 a9 aa a0 a5 a2 a1 a3 a7 a8 a6 R w) : Calls Try.prog 53 #[.agg #[.slice ad ab ac, .int .i64 a4], .agg #[.int .i64 a9, .int .i64 aa, .int .u64 a0, .int .i64 a5, .slice a2 a1 a3, .slice a7 a8 a6]] w fun e w' => ∃ v, e = .returned v ∧ R v w' :=
  Q0i follows (H := []) (args := [.agg #[.slice ad ab ac, .int .i64 a4], .agg #[.int .i64 a9, .int .i64 aa, .int .u64 a0, .int .i64 a5, .slice a2 a1 a3, .slice a7 a8 a6]]) (cast (by kernel_rfl) h)

def Q0m.N (ag : Option Addr) (ac aq : Nat) (a1 b2 ah ap a9 : Int) (al : Option Addr) (ar au : Nat) (ax : Option Addr) (aw az : Nat) (R : RW) (w : World) : Prop :=
 ∀ (aa : World) (ae av a8 : Nat), Ext no w aa → Priv w aa [ae, av, a8] →
 Calls Try.prog 84 #[.agg #[.slice ag ac aq, .int .i64 a1], .int .i64 ah] aa fun ay a6 => ∃ (a0 : Int) (a5 : Bool), ay = .returned (.tuple #[.int .i64 a0, .bool a5]) ∧
 Keep [ae, av, a8] aa a6 ∧
 (a5 = false →
 ∀ (an : World), Ext (fun b => b = a8) a6 an →
 R (.tuple #[.agg #[.slice none 0 0, .int .i64 0], .int .i64 20]) an) ∧
 (a5 = true →
 ∃ b3 : Addr, ag = some b3 ∧
 0 ≤ (a0 : Int) ∧ (a0 : Int) < (ac : Int) ∧
 ∃ (af : Int), a6.cell? ((b3.add (Int.toNat a0 * 5)).add 3) = some (.int .i64 af) ∧
 (af ≠ (-1) →
 ∀ (ai : World), Ext (fun b => b = a8) a6 ai →
 R (.tuple #[.agg #[.slice none 0 0, .int .i64 0], .int .i64 10]) ai) ∧
 (af = (-1) →
 Calls Try.prog 83 #[.slice ag ac aq] a6 fun b0 ak => ∃ (a2 : Option Addr) (a3 a4 : Nat), b0 = .returned (.slice a2 a3 a4) ∧
 Keep [ae, av, a8] a6 ak ∧
 ∃ a7 : Addr, a2 = some a7 ∧
 0 ≤ (a0 : Int) ∧ (a0 : Int) < (a3 : Int) ∧
 ∀ (ab : World), Ext (fun b => b = ae) ak ab →
 Q0d ab (((a7.add (Int.toNat a0 * 5)).add 3).add 0) ∧
 (∀ p ∈ [ae, av, a8], p ≠ Addr.block ((a7.add (Int.toNat a0 * 5)).add 3)) ∧
 thenW (ab.setCell (((a7.add (Int.toNat a0 * 5)).add 3).add 0) (.int .i64 a1)) fun aj =>
 Q0d aj (((a7.add (Int.toNat a0 * 5)).add 4).add 0) ∧
 (∀ p ∈ [ae, a8], p ≠ Addr.block ((a7.add (Int.toNat a0 * 5)).add 4)) ∧
 thenW (aj.setCell (((a7.add (Int.toNat a0 * 5)).add 4).add 0) (.int .i64 a9)) fun ad =>
 (a1 < 0 →
 Q0d ad (((a7.add (Int.toNat a0 * 5)).add 3).add 0) ∧
 (∀ p ∈ [ae, a8], p ≠ Addr.block ((a7.add (Int.toNat a0 * 5)).add 3)) ∧
 thenW (ad.setCell (((a7.add (Int.toNat a0 * 5)).add 3).add 0) (.int .i64 (-2))) fun b1 =>
 ∀ (am : World), Ext (fun b => b = a8) b1 am →
 R (.tuple #[.agg #[.slice a2 a3 a4, .int .i64 a1], .int .i64 0]) am) ∧
 ((0 : Int) ≤ a1 →
 ∀ (ao : World), Ext (fun b => b = a8) ad ao →
 R (.tuple #[.agg #[.slice a2 a3 a4, .int .i64 a1], .int .i64 0]) ao)))

theorem Q0m.up (ag : Option Addr) (af ak : Nat) (a0 al ah ab a6 : Int) (a8 : Option Addr) (a9 ac : Nat) (ae : Option Addr) (ai aj : Nat) {R : RW} {w : World} (h : Q0m.N ag af ak a0 al ah ab a6 a8 a9 ac ae ai aj R w) : Q0m.M ag af ak a0 al ah ab a6 a8 a9 ac ae ai aj R w := by
  unfold Q0m.M
  unfold Q0m.N at h
  refine Q01 fun ca e9 => ?_
  have a4 := Blk.of_new e9
  have c4 := ((Ext.refl no w)).size
  have bu := (Ext.refl no w).x_alloc e9
  refine Q01 fun a7 br => ?_
  have aa := Blk.of_new br
  have c5 := (bu).size
  have ar := Nat.ne_of_lt a4.lt
  have a4 := a4.x_alloc br
  have av := bu.x_alloc br
  refine Q01 fun bk b1 => ?_
  have a5 := Blk.of_new b1
  have c8 := (av).size
  have aw := Nat.ne_of_lt a4.lt
  have a4 := a4.x_alloc b1
  have bv := Nat.ne_of_lt aa.lt
  have aa := aa.x_alloc b1
  have be := av.x_alloc b1
  refine ⟨ag, af, ak, a0, ⟨a4.celli 0 rfl rfl, a4.celli 1 rfl rfl, trivial⟩, ?_⟩
  refine ⟨ah, aa.celli 1 rfl rfl, ?_⟩
  have h := h bk (w.heap.size) (ca.heap.size) (a7.heap.size) be (Priv.cons c4 a4.lt (Priv.cons c5 aa.lt (Priv.cons c8 a5.lt Priv.nil)))
  refine h.mono fun c0 ad h => ?_
  obtain ⟨ap, aq, he, hk, h⟩ := h
  refine ⟨ap, aq, he, ?_⟩
  have a4 := hk.blk a4 (by simp)
  have aa := hk.blk aa (by simp)
  have a5 := hk.blk a5 (by simp)
  refine bif_of (fun bp => ?_) (fun bp => ?_)
  ·have h := h.1 (not_t bp)
   have bs : Ext (fun b => b = a7.heap.size) ad ad := ((Ext.refl no ad)).none
   refine Q0p (k := 0) (j := 0) a5 (Nat.le_of_ble_eq_true rfl) fun az bw c6 => ?_
   have bh := bs.x_puts bw (.inl rfl)
   have a5 : Blk az a7.heap.size 64 [.slice none 0 0, .int .i64 0] := c6
   refine ⟨none, 0, 0, 0, ⟨a5.celli 0 rfl rfl, a5.celli 1 rfl rfl, trivial⟩, ?_⟩
   have h := h az bh
   exact h
  have h := h.2 (not_f bp)
  unfold Q0m.J3
  refine ⟨ag, af, ak, a4.celli 0 rfl rfl, ?_⟩
  obtain ⟨ce, b9, h⟩ := h
  refine Q05 b9 ?_
  obtain ⟨bl, b7, h⟩ := h
  refine ⟨bl, b7, ?_⟩
  obtain ⟨bt, bf, h⟩ := h
  refine ⟨bt, bf, ?_⟩
  refine bif_of (fun bn => ?_) (fun bn => ?_)
  ·have h := h.1 (bne_t bn)
   have b6 : Ext (fun b => b = a7.heap.size) ad ad := ((Ext.refl no ad)).none
   refine Q0p (k := 0) (j := 0) a5 (Nat.le_of_ble_eq_true rfl) fun ay c7 c2 => ?_
   have bd := b6.x_puts c7 (.inl rfl)
   have a5 : Blk ay a7.heap.size 64 [.slice none 0 0, .int .i64 0] := c2
   refine ⟨none, 0, 0, 0, ⟨a5.celli 0 rfl rfl, a5.celli 1 rfl rfl, trivial⟩, ?_⟩
   have h := h ay bd
   exact h
  have h := h.2 (bne_f bn)
  unfold Q0m.J2
  refine ⟨ag, af, ak, a4.celli 0 rfl rfl, ?_⟩
  refine h.mono fun cc ao h => ?_
  obtain ⟨a1, a3, a2, he, hk, h⟩ := h
  refine ⟨a1, a3, a2, he, ?_⟩
  have a4 := hk.blk a4 (by simp)
  have aa := hk.blk aa (by simp)
  have a5 := hk.blk a5 (by simp)
  have bm : Ext (fun b => b = w.heap.size) ao ao := ((Ext.refl no ao)).none
  refine ⟨a4.cani 0 rfl rfl, Q01 fun bz b3 => ?_⟩
  have b4 := bm.x_set (q := w.heap.size) (i := 0) rfl (.inl rfl) b3
  have a4 := a4.seti 0 rfl b3
  have aa := aa.oth (q := w.heap.size) (i := 0) rfl (Ne.symm ar) b3
  have a5 := a5.oth (q := w.heap.size) (i := 0) rfl (Ne.symm aw) b3
  refine ⟨a1, a3, a2, a4.celli 0 rfl rfl, ?_⟩
  obtain ⟨cd, bo, h⟩ := h
  refine Q05 bo ?_
  obtain ⟨bl, b7, h⟩ := h
  refine ⟨bl, b7, ?_⟩
  refine Q01 fun bj b0 => ?_
  have bi := b4.x_drew b0
  have a4 := a4.x_drew b0
  have aa := aa.x_drew b0
  have a5 := a5.x_drew b0
  refine ⟨a0, a4.celli 1 rfl rfl, ?_⟩
  refine ⟨a6, aa.celli 3 rfl rfl, ?_⟩
  have h := h bj bi
  obtain ⟨hcs, hof, h⟩ := h
  refine ⟨hcs, Q01 fun cb b2 => ?_⟩
  replace h := Q1d h b2
  have a4 := a4.off (by rw [Q1a]; exact hof _ (by simp)) b2
  have aa := aa.off (by rw [Q1a]; exact hof _ (by simp)) b2
  have a5 := a5.off (by rw [Q1a]; exact hof _ (by simp)) b2
  refine ⟨aa.celli 3 rfl rfl, ?_⟩
  obtain ⟨hcs, hof, h⟩ := h
  refine ⟨hcs, Q01 fun am b5 => ?_⟩
  replace h := Q1d h b5
  have a4 := a4.off (by rw [Q1a]; exact hof _ (by simp)) b5
  have a5 := a5.off (by rw [Q1a]; exact hof _ (by simp)) b5
  unfold Q0m.J1
  refine ⟨a0, a4.celli 1 rfl rfl, ?_⟩
  refine bif_fo (fun bb => ?_) (fun bb => ?_)
  ·have h := h.2 (Int.not_lt.1 (of_decide_eq_false bb))
   refine ⟨a1, a3, a2, a0, ⟨a4.celli 0 rfl rfl, a4.celli 1 rfl rfl, trivial⟩, ?_⟩
   have b8 : Ext (fun b => b = a7.heap.size) am am := ((Ext.refl no am)).none
   refine Q0p (k := 0) (j := 0) a5 (Nat.le_of_ble_eq_true rfl) fun ax bx c9 => ?_
   have bq := b8.x_puts bx (.inl rfl)
   have a5 : Blk ax a7.heap.size 64 [.slice a1 a3 a2, .int .i64 a0] := c9
   refine ⟨a1, a3, a2, a0, ⟨a5.celli 0 rfl rfl, a5.celli 1 rfl rfl, trivial⟩, ?_⟩
   have h := h ax bq
   exact h
  have h := h.1 (of_decide_eq_true bb)
  obtain ⟨hcs, hof, h⟩ := h
  refine ⟨hcs, Q01 fun an bc => ?_⟩
  replace h := Q1d h bc
  have a4 := a4.off (by rw [Q1a]; exact hof _ (by simp)) bc
  have a5 := a5.off (by rw [Q1a]; exact hof _ (by simp)) bc
  refine ⟨a1, a3, a2, a0, ⟨a4.celli 0 rfl rfl, a4.celli 1 rfl rfl, trivial⟩, ?_⟩
  have ba : Ext (fun b => b = a7.heap.size) an an := ((Ext.refl no an)).none
  refine Q0p (k := 0) (j := 0) a5 (Nat.le_of_ble_eq_true rfl) fun au c3 c1 => ?_
  have bg := ba.x_puts c3 (.inl rfl)
  have a5 : Blk au a7.heap.size 64 [.slice a1 a3 a2, .int .i64 a0] := c1
  refine ⟨a1, a3, a2, a0, ⟨a5.celli 0 rfl rfl, a5.celli 1 rfl rfl, trivial⟩, ?_⟩
  have h := h au bg
  exact h

theorem Q0m.go (ad : Option Addr) (ab ac : Nat) (a4 a9 aa a0 a5 : Int) (a2 : Option Addr) (a1 a3 : Nat) (a7 : Option Addr) (a8 a6 : Nat) {R : RW} {w : World} (h : Q0m.N ad ab ac a4 a9 aa a0 a5 a2 a1 a3 a7 a8 a6 R w) : Calls Try.prog 53 #[.agg #[.slice ad ab ac, .int .i64 a4], .agg #[.int .i64 a9, .int .i64 aa, .int .u64 a0, .int .i64 a5, .slice a2 a1 a3, .slice a7 a8 a6]] w fun e w' => ∃ v, e = .returned v ∧ R v w' := Q0m.ok ad ab ac a4 a9 aa a0 a5 a2 a1 a3 a7 a8 a6 (Q0m.up ad ab ac a4 a9 aa a0 a5 a2 a1 a3 a7 a8 a6 h)
abbrev Q0A.J1 (am ak : Addr) (R : RW) (ai : World) : Prop :=
 ∃ (af : Option Addr) (ad ae : Nat), ai.cell? (ak.add 0) = some (.slice af ad ae) ∧
 Calls Try.prog 83 #[.slice af ad ae] ai fun al aj => ∃ (a2 : Option Addr) (a3 a4 : Nat), al = .returned (.slice a2 a3 a4) ∧
 Q0d aj ((ak.add 0).add 0) ∧
 thenW (aj.setCell ((ak.add 0).add 0) (.slice a2 a3 a4)) fun a9 =>
 ∃ (a7 : Int), a9.cell? (ak.add 1) = some (.int .i64 a7) ∧
 Q0d a9 ((ak.add 1).add 0) ∧
 thenW (a9.setCell ((ak.add 1).add 0) (.int .i64 (IntKind.i64.wrap (a7 + 1)))) fun ah =>
 ∃ (ab : Option Addr) (aa ac : Nat) (a1 : Int), cellsAt ah ak [.slice ab aa ac, .int .i64 a1] 0 ∧
 putsK ah am [.slice ab aa ac, .int .i64 a1] 0 fun ag =>
 ∃ (a5 : Option Addr) (a6 a8 : Nat) (a0 : Int), cellsAt ag am [.slice a5 a6 a8, .int .i64 a0] 0 ∧
 R (.tuple #[.agg #[.slice a5 a6 a8, .int .i64 a0], .int .i64 0]) ag

abbrev Q0A.J2 (ap av ax : Addr) (R : RW) (aw : World) : Prop :=
 thenW (aw.drew) fun ae =>
 ∃ (an : Option Addr) (ai am : Nat), ae.cell? (av.add 5) = some (.slice an ai am) ∧
 ∃ (a9 : Int), ae.cell? (ax.add 1) = some (.int .i64 a9) ∧
 bif !(((ai : Int) == 0) == (decide (a9 < 0))) then (
 putsK ae ap [.slice none 0 0, .int .i64 0] 0 fun aq =>
 ∃ (aa : Option Addr) (ab ad : Nat) (a5 : Int), cellsAt aq ap [.slice aa ab ad, .int .i64 a5] 0 ∧
 R (.tuple #[.agg #[.slice aa ab ad, .int .i64 a5], .int .i64 10]) aq) else (
 ∃ (aj : Option Addr) (ak al : Nat) (a6 : Int), cellsAt ae ax [.slice aj ak al, .int .i64 a6] 0 ∧
 ∃ (a0 : Option Addr) (a4 a1 : Nat), ae.cell? (av.add 4) = some (.slice a0 a4 a1) ∧
 Calls Try.prog 40 #[.agg #[.slice aj ak al, .int .i64 a6]] ae fun az ao => ∃ (ah : Option Addr) (af ag : Nat), az = .returned (.slice ah af ag) ∧
 ao.cell? (av.add 4) = some (.slice a0 a4 a1) ∧
 Calls Try.prog 81 #[.slice ah af ag, .slice a0 a4 a1, .func (.func 82) #[] #[]] ao fun ay ar => ∃ (a2 : Bool), ay = .returned (.bool a2) ∧
 bif !a2 then (
 putsK ar ap [.slice none 0 0, .int .i64 0] 0 fun au =>
 ∃ (a8 : Option Addr) (a7 ac : Nat) (a3 : Int), cellsAt au ap [.slice a8 a7 ac, .int .i64 a3] 0 ∧
 R (.tuple #[.agg #[.slice a8 a7 ac, .int .i64 a3], .int .i64 10]) au) else (
 Q0A.J1 ap ax R ar))

def Q0A.M (aj : Option Addr) (ak al : Nat) (a9 af ah a6 aa : Int) (a5 : Option Addr) (a7 a8 : Nat) (ad : Option Addr) (ac ag : Nat) (R : RW) (w : World) : Prop :=
 thenW (w.alloc (.cells #[.slice aj ak al, .int .i64 a9] 64)) fun am =>
 thenW (am.alloc (.cells #[.int .i64 af, .int .i64 ah, .int .u64 a6, .int .i64 aa, .slice a5 a7 a8, .slice ad ac ag] 72)) fun ab =>
 thenW (ab.alloc (.cells #[.slice none 0 0, .int .i64 0] 64)) fun ae =>
 ∃ (a2 : Int), ae.cell? ((blk w.heap.size).add 1) = some (.int .i64 a2) ∧
 bif decide ((IntKind.i64.wrap (a2 + 1)) ≥ 20) then (
 putsK ae (blk ab.heap.size) [.slice none 0 0, .int .i64 0] 0 fun ai =>
 ∃ (a3 : Option Addr) (a4 a1 : Nat) (a0 : Int), cellsAt ai (blk ab.heap.size) [.slice a3 a4 a1, .int .i64 a0] 0 ∧
 R (.tuple #[.agg #[.slice a3 a4 a1, .int .i64 a0], .int .i64 2]) ai) else (
 Q0A.J2 (blk ab.heap.size) (blk am.heap.size) (blk w.heap.size) R ae)

theorem Q0A.ok (ad : Option Addr) (ab ac : Nat) (a4 a9 aa a0 a5 : Int) (a2 : Option Addr) (a1 a3 : Nat) (a7 : Option Addr) (a8 a6 : Nat) {R : RW} {w : World} (h : Q0A.M ad ab ac a4 a9 aa a0 a5 a2 a1 a3 a7 a8 a6 R w) : Calls Try.prog 51 #[.agg #[.slice ad ab ac, .int .i64 a4], .agg #[.int .i64 a9, .int .i64 aa, .int .u64 a0, .int .i64 a5, .slice a2 a1 a3, .slice a7 a8 a6]] w fun e w' => ∃ v, e = .returned v ∧ R v w' :=
  Q0i follows (H := []) (args := [.agg #[.slice ad ab ac, .int .i64 a4], .agg #[.int .i64 a9, .int .i64 aa, .int .u64 a0, .int .i64 a5, .slice a2 a1 a3, .slice a7 a8 a6]]) (cast (by kernel_rfl) h)

def Q0A.N (ap : Option Addr) (ak an : Nat) (a0 ax b0 am aq : Int) (a8 : Option Addr) (aa ab : Nat) (ar : Option Addr) (a6 au : Nat) (R : RW) (w : World) : Prop :=
 (-9223372036854775808 : Int) ≤ (a0 + 1) ∧ (a0 + 1) < 9223372036854775808 ∧
 ((a0 + 1) ≥ 20 →
 ∀ (ah : World), Ext no w ah →
 R (.tuple #[.agg #[.slice none 0 0, .int .i64 0], .int .i64 2]) ah) ∧
 ((a0 + 1) < 20 →
 (((a6 : Int) == 0) ≠ (decide (a0 < 0)) →
 ∀ (ai : World), Ext no w ai →
 R (.tuple #[.agg #[.slice none 0 0, .int .i64 0], .int .i64 10]) ai) ∧
 (((a6 : Int) == 0) = (decide (a0 < 0)) →
 ∀ (ad : World) (ao az af : Nat), Ext no w ad → Priv w ad [ao, az, af] →
 Calls Try.prog 40 #[.agg #[.slice ap ak an, .int .i64 a0]] ad fun aw ae => ∃ (a9 : Option Addr) (a7 a5 : Nat), aw = .returned (.slice a9 a7 a5) ∧
 Keep [ao, az, af] ad ae ∧
 Calls Try.prog 81 #[.slice a9 a7 a5, .slice a8 aa ab, .func (.func 82) #[] #[]] ae fun ay ac => ∃ (a1 : Bool), ay = .returned (.bool a1) ∧
 Keep [ao, af] ae ac ∧
 (a1 = false →
 ∀ (aj : World), Ext (fun b => b = af) ac aj →
 R (.tuple #[.agg #[.slice none 0 0, .int .i64 0], .int .i64 10]) aj) ∧
 (a1 = true →
 Calls Try.prog 83 #[.slice ap ak an] ac fun av al => ∃ (a3 : Option Addr) (a2 a4 : Nat), av = .returned (.slice a3 a2 a4) ∧
 Keep [ao, af] ac al ∧
 (-9223372036854775808 : Int) ≤ (a0 + 1) ∧ (a0 + 1) < 9223372036854775808 ∧
 ∀ (ag : World), Ext (fun b => b = af ∨ b = ao) al ag →
 R (.tuple #[.agg #[.slice a3 a2 a4, .int .i64 (a0 + 1)], .int .i64 0]) ag)))

theorem Q0A.up (ak : Option Addr) (ai al : Nat) (a0 ah am a9 af : Int) (a6 : Option Addr) (a7 a8 : Nat) (aa : Option Addr) (ab ad : Nat) {R : RW} {w : World} (h : Q0A.N ak ai al a0 ah am a9 af a6 a7 a8 aa ab ad R w) : Q0A.M ak ai al a0 ah am a9 af a6 a7 a8 aa ab ad R w := by
  unfold Q0A.M
  unfold Q0A.N at h
  refine Q01 fun c1 e9 => ?_
  have a4 := Blk.of_new e9
  have bq := ((Ext.refl no w)).size
  have bo := (Ext.refl no w).x_alloc e9
  refine Q01 fun ae bl => ?_
  have ag := Blk.of_new bl
  have bt := (bo).size
  have bn := Nat.ne_of_lt a4.lt
  have a4 := a4.x_alloc bl
  have ay := bo.x_alloc bl
  refine Q01 fun bx b2 => ?_
  have a1 := Blk.of_new b2
  have bg := (ay).size
  have an := Nat.ne_of_lt a4.lt
  have a4 := a4.x_alloc b2
  have bp := Nat.ne_of_lt ag.lt
  have ag := ag.x_alloc b2
  have az := ay.x_alloc b2
  refine ⟨a0, a4.celli 1 rfl rfl, ?_⟩
  obtain ⟨be, bk, h⟩ := h
  try rw [w64 be bk]
  refine bif_of (fun b6 => ?_) (fun b6 => ?_)
  ·have h := h.1 (of_decide_eq_true b6)
   refine Q0p (k := 0) (j := 0) a1 (Nat.le_of_ble_eq_true rfl) fun au bw c4 => ?_
   have b8 := az.x_puts bw (.inr bg)
   have a1 : Blk au ae.heap.size 64 [.slice none 0 0, .int .i64 0] := c4
   refine ⟨none, 0, 0, 0, ⟨a1.celli 0 rfl rfl, a1.celli 1 rfl rfl, trivial⟩, ?_⟩
   have h := h au b8
   exact h
  have h := h.2 (Int.not_le.1 (of_decide_eq_false b6))
  unfold Q0A.J2
  refine Q01 fun bm b1 => ?_
  have av := az.x_drew b1
  have a4 := a4.x_drew b1
  have ag := ag.x_drew b1
  have a1 := a1.x_drew b1
  refine ⟨aa, ab, ad, ag.celli 5 rfl rfl, ?_⟩
  refine ⟨a0, a4.celli 1 rfl rfl, ?_⟩
  refine bif_of (fun bh => ?_) (fun bh => ?_)
  ·have h := h.1 (bbeq_f (not_t bh))
   refine Q0p (k := 0) (j := 0) a1 (Nat.le_of_ble_eq_true rfl) fun b0 c6 c7 => ?_
   have bd := av.x_puts c6 (.inr bg)
   have a1 : Blk b0 ae.heap.size 64 [.slice none 0 0, .int .i64 0] := c7
   refine ⟨none, 0, 0, 0, ⟨a1.celli 0 rfl rfl, a1.celli 1 rfl rfl, trivial⟩, ?_⟩
   have h := h b0 bd
   exact h
  have h := h.2 (bbeq_t (not_f bh))
  refine ⟨ak, ai, al, a0, ⟨a4.celli 0 rfl rfl, a4.celli 1 rfl rfl, trivial⟩, ?_⟩
  refine ⟨a6, a7, a8, ag.celli 4 rfl rfl, ?_⟩
  have h := h bm (w.heap.size) (c1.heap.size) (ae.heap.size) av (Priv.cons bq a4.lt (Priv.cons bt ag.lt (Priv.cons bg a1.lt Priv.nil)))
  refine h.mono fun c3 br h => ?_
  obtain ⟨ar, aq, ap, he, hk, h⟩ := h
  refine ⟨ar, aq, ap, he, ?_⟩
  have a4 := hk.blk a4 (by simp)
  have ag := hk.blk ag (by simp)
  have a1 := hk.blk a1 (by simp)
  refine ⟨ag.celli 4 rfl rfl, ?_⟩
  refine h.mono fun c0 ao h => ?_
  obtain ⟨ac, he, hk, h⟩ := h
  refine ⟨ac, he, ?_⟩
  have a4 := hk.blk a4 (by simp)
  have a1 := hk.blk a1 (by simp)
  refine bif_of (fun b3 => ?_) (fun b3 => ?_)
  ·have h := h.1 (not_t b3)
   have bc : Ext (fun b => b = ae.heap.size) ao ao := ((Ext.refl no ao)).none
   refine Q0p (k := 0) (j := 0) a1 (Nat.le_of_ble_eq_true rfl) fun aw c2 c5 => ?_
   have ba := bc.x_puts c2 (.inl rfl)
   have a1 : Blk aw ae.heap.size 64 [.slice none 0 0, .int .i64 0] := c5
   refine ⟨none, 0, 0, 0, ⟨a1.celli 0 rfl rfl, a1.celli 1 rfl rfl, trivial⟩, ?_⟩
   have h := h aw ba
   exact h
  have h := h.2 (not_f b3)
  unfold Q0A.J1
  refine ⟨ak, ai, al, a4.celli 0 rfl rfl, ?_⟩
  refine h.mono fun bs aj h => ?_
  obtain ⟨a3, a2, a5, he, hk, h⟩ := h
  refine ⟨a3, a2, a5, he, ?_⟩
  have a4 := hk.blk a4 (by simp)
  have a1 := hk.blk a1 (by simp)
  have b5 : Ext (fun b => b = w.heap.size) aj aj := ((Ext.refl no aj)).none
  refine ⟨a4.cani 0 rfl rfl, Q01 fun bz bi => ?_⟩
  have bj := b5.x_set (q := w.heap.size) (i := 0) rfl (.inl rfl) bi
  have a4 := a4.seti 0 rfl bi
  have a1 := a1.oth (q := w.heap.size) (i := 0) rfl (Ne.symm an) bi
  refine ⟨a0, a4.celli 1 rfl rfl, ?_⟩
  obtain ⟨be, bk, h⟩ := h
  try rw [w64 be bk]
  refine ⟨a4.cani 1 rfl rfl, Q01 fun b9 bf => ?_⟩
  have b7 := bj.x_set (q := w.heap.size) (i := 1) rfl (.inl rfl) bf
  have a4 := a4.seti 1 rfl bf
  have a1 := a1.oth (q := w.heap.size) (i := 1) rfl (Ne.symm an) bf
  refine ⟨a3, a2, a5, (a0 + 1), ⟨a4.celli 0 rfl rfl, a4.celli 1 rfl rfl, trivial⟩, ?_⟩
  have bb : Ext (fun b => b = ae.heap.size ∨ b = w.heap.size) aj b9 := (b7).mono fun _ h _ => .inr h
  refine Q0p (k := 0) (j := 0) a1 (Nat.le_of_ble_eq_true rfl) fun ax bv bu => ?_
  have b4 := bb.x_puts bv (.inl (.inl rfl))
  have a1 : Blk ax ae.heap.size 64 [.slice a3 a2 a5, .int .i64 (a0 + 1)] := bu
  refine ⟨a3, a2, a5, (a0 + 1), ⟨a1.celli 0 rfl rfl, a1.celli 1 rfl rfl, trivial⟩, ?_⟩
  have h := h ax b4
  exact h

theorem Q0A.go (ad : Option Addr) (ab ac : Nat) (a4 a9 aa a0 a5 : Int) (a2 : Option Addr) (a1 a3 : Nat) (a7 : Option Addr) (a8 a6 : Nat) {R : RW} {w : World} (h : Q0A.N ad ab ac a4 a9 aa a0 a5 a2 a1 a3 a7 a8 a6 R w) : Calls Try.prog 51 #[.agg #[.slice ad ab ac, .int .i64 a4], .agg #[.int .i64 a9, .int .i64 aa, .int .u64 a0, .int .i64 a5, .slice a2 a1 a3, .slice a7 a8 a6]] w fun e w' => ∃ v, e = .returned v ∧ R v w' := Q0A.ok ad ab ac a4 a9 aa a0 a5 a2 a1 a3 a7 a8 a6 (Q0A.up ad ab ac a4 a9 aa a0 a5 a2 a1 a3 a7 a8 a6 h)
abbrev Q0P.J1 (ap : Option Addr) (au ar : Nat) (aq : Int) (an ao : Addr) (R : RW) (ah : World) : Prop :=
 ∃ (a9 af a2 a6 : Int) (a3 : Option Addr) (a1 a4 : Nat) (ac : Option Addr) (a7 ab : Nat), cellsAt ah ao [.int .i64 a9, .int .i64 af, .int .u64 a2, .int .i64 a6, .slice a3 a1 a4, .slice ac a7 ab] 0 ∧
 Calls Try.prog 52 #[.agg #[.slice ap au ar, .int .i64 aq], .agg #[.int .i64 a9, .int .i64 af, .int .u64 a2, .int .i64 a6, .slice a3 a1 a4, .slice ac a7 ab]] ah fun al am => ∃ (ag : Option Addr) (aj ak : Nat) (a8 a5 : Int), al = .returned (.tuple #[.agg #[.slice ag aj ak, .int .i64 a8], .int .i64 a5]) ∧
 putsK am an [.slice ag aj ak, .int .i64 a8] 0 fun ai =>
 ∃ (aa : Option Addr) (ad ae : Nat) (a0 : Int), cellsAt ai an [.slice aa ad ae, .int .i64 a0] 0 ∧
 R (.tuple #[.agg #[.slice aa ad ae, .int .i64 a0], .int .i64 a5]) ai

abbrev Q0P.J2 (ar : Option Addr) (ap aq : Nat) (au : Int) (an ao : Addr) (R : RW) (aj : World) : Prop :=
 ∃ (ac af a4 a5 : Int) (a2 : Option Addr) (a3 a1 : Nat) (ae : Option Addr) (a7 ad : Nat), cellsAt aj ao [.int .i64 ac, .int .i64 af, .int .u64 a4, .int .i64 a5, .slice a2 a3 a1, .slice ae a7 ad] 0 ∧
 Calls Try.prog 53 #[.agg #[.slice ar ap aq, .int .i64 au], .agg #[.int .i64 ac, .int .i64 af, .int .u64 a4, .int .i64 a5, .slice a2 a3 a1, .slice ae a7 ad]] aj fun am al => ∃ (ah : Option Addr) (ak ag : Nat) (ab a6 : Int), am = .returned (.tuple #[.agg #[.slice ah ak ag, .int .i64 ab], .int .i64 a6]) ∧
 putsK al an [.slice ah ak ag, .int .i64 ab] 0 fun ai =>
 ∃ (aa : Option Addr) (a8 a9 : Nat) (a0 : Int), cellsAt ai an [.slice aa a8 a9, .int .i64 a0] 0 ∧
 R (.tuple #[.agg #[.slice aa a8 a9, .int .i64 a0], .int .i64 a6]) ai

abbrev Q0P.J3 (aq : Option Addr) (ar ao : Nat) (au : Int) (am ap : Addr) (R : RW) (ag : World) : Prop :=
 ∃ (a7 af a3 a6 : Int) (a4 : Option Addr) (a2 a1 : Nat) (ab : Option Addr) (ad a9 : Nat), cellsAt ag ap [.int .i64 a7, .int .i64 af, .int .u64 a3, .int .i64 a6, .slice a4 a2 a1, .slice ab ad a9] 0 ∧
 Calls Try.prog 51 #[.agg #[.slice aq ar ao, .int .i64 au], .agg #[.int .i64 a7, .int .i64 af, .int .u64 a3, .int .i64 a6, .slice a4 a2 a1, .slice ab ad a9]] ag fun an al => ∃ (ah : Option Addr) (ai aj : Nat) (ae a5 : Int), an = .returned (.tuple #[.agg #[.slice ah ai aj, .int .i64 ae], .int .i64 a5]) ∧
 putsK al am [.slice ah ai aj, .int .i64 ae] 0 fun ak =>
 ∃ (ac : Option Addr) (aa a8 : Nat) (a0 : Int), cellsAt ak am [.slice ac aa a8, .int .i64 a0] 0 ∧
 R (.tuple #[.agg #[.slice ac aa a8, .int .i64 a0], .int .i64 a5]) ak

abbrev Q0P.J4 (af ae ag : Addr) (R : RW) (a4 : World) : Prop :=
 ∃ (a9 : Option Addr) (ac ab : Nat) (a2 : Int), cellsAt a4 ag [.slice a9 ac ab, .int .i64 a2] 0 ∧
 ∃ (a3 : Int), a4.cell? (ae.add 0) = some (.int .i64 a3) ∧
 bif a3 == 1 then (
 ∃ (ad : Option Addr) (aa a8 : Nat) (a1 : Int), cellsAt a4 ag [.slice ad aa a8, .int .i64 a1] 0 ∧
 Q0P.J1 ad aa a8 a1 af ae R a4) else (
 bif a3 == 2 then (
 ∃ (a5 : Option Addr) (a6 a7 : Nat) (a0 : Int), cellsAt a4 ag [.slice a5 a6 a7, .int .i64 a0] 0 ∧
 Q0P.J2 a5 a6 a7 a0 af ae R a4) else (
 Q0P.J3 a9 ac ab a2 af ae R a4))

def Q0P.M (b0 : Option Addr) (ay az : Nat) (aj ap aq ag ak : Int) (af : Option Addr) (ah ai : Nat) (an : Option Addr) (am ao : Nat) (R : RW) (w : World) : Prop :=
 thenW (w.alloc (.cells #[.slice b0 ay az, .int .i64 aj] 64)) fun ax =>
 thenW (ax.alloc (.cells #[.int .i64 ap, .int .i64 aq, .int .u64 ag, .int .i64 ak, .slice af ah ai, .slice an am ao] 72)) fun al =>
 thenW (al.alloc (.cells #[.slice none 0 0, .int .i64 0] 64)) fun ar =>
 ∃ (a8 ae a1 a5 : Int) (a3 : Option Addr) (a4 a2 : Nat) (aa : Option Addr) (ab a6 : Nat), cellsAt ar (blk ax.heap.size) [.int .i64 a8, .int .i64 ae, .int .u64 a1, .int .i64 a5, .slice a3 a4 a2, .slice aa ab a6] 0 ∧
 Calls Try.prog 50 #[.agg #[.int .i64 a8, .int .i64 ae, .int .u64 a1, .int .i64 a5, .slice a3 a4 a2, .slice aa ab a6]] ar fun aw au => ∃ (ac : Bool), aw = .returned (.bool ac) ∧
 bif !ac then (
 putsK au (blk al.heap.size) [.slice none 0 0, .int .i64 0] 0 fun av =>
 ∃ (ad : Option Addr) (a7 a9 : Nat) (a0 : Int), cellsAt av (blk al.heap.size) [.slice ad a7 a9, .int .i64 a0] 0 ∧
 R (.tuple #[.agg #[.slice ad a7 a9, .int .i64 a0], .int .i64 1]) av) else (
 Q0P.J4 (blk al.heap.size) (blk ax.heap.size) (blk w.heap.size) R au)

theorem Q0P.ok (ad : Option Addr) (ab ac : Nat) (a4 a9 aa a0 a5 : Int) (a2 : Option Addr) (a1 a3 : Nat) (a7 : Option Addr) (a8 a6 : Nat) {R : RW} {w : World} (h : Q0P.M ad ab ac a4 a9 aa a0 a5 a2 a1 a3 a7 a8 a6 R w) : Calls Try.prog 23 #[.agg #[.slice ad ab ac, .int .i64 a4], .agg #[.int .i64 a9, .int .i64 aa, .int .u64 a0, .int .i64 a5, .slice a2 a1 a3, .slice a7 a8 a6]] w fun e w' => ∃ v, e = .returned v ∧ R v w' :=
  Q0i follows (H := []) (args := [.agg #[.slice ad ab ac, .int .i64 a4], .agg #[.int .i64 a9, .int .i64 aa, .int .u64 a0, .int .i64 a5, .slice a2 a1 a3, .slice a7 a8 a6]]) (cast (by kernel_rfl) h)

def Q0P.N (al : Option Addr) (am an : Nat) (a9 a0 af a2 a5 : Int) (a1 : Option Addr) (a3 a4 : Nat) (a7 : Option Addr) (a6 aa : Nat) (R : RW) (w : World) : Prop :=
 ∀ (aj : World) (bb ba ak : Nat), Ext no w aj → Priv w aj [bb, ba, ak] →
 Calls Try.prog 50 #[.agg #[.int .i64 a0, .int .i64 af, .int .u64 a2, .int .i64 a5, .slice a1 a3 a4, .slice a7 a6 aa]] aj fun b6 ad => ∃ (a8 : Bool), b6 = .returned (.bool a8) ∧
 Keep [bb, ba, ak] aj ad ∧
 (a8 = false →
 ∀ (av : World), Ext (fun b => b = ak) ad av →
 R (.tuple #[.agg #[.slice none 0 0, .int .i64 0], .int .i64 1]) av) ∧
 (a8 = true →
 (a0 = 1 →
 Calls Try.prog 52 #[.agg #[.slice al am an, .int .i64 a9], .agg #[.int .i64 a0, .int .i64 af, .int .u64 a2, .int .i64 a5, .slice a1 a3 a4, .slice a7 a6 aa]] ad fun b8 aw => ∃ (ao : Option Addr) (b1 b0 : Nat) (ag ab : Int), b8 = .returned (.tuple #[.agg #[.slice ao b1 b0, .int .i64 ag], .int .i64 ab]) ∧
 Keep [ak] ad aw ∧
 ∀ (b4 : World), Ext (fun b => b = ak) aw b4 →
 R (.tuple #[.agg #[.slice ao b1 b0, .int .i64 ag], .int .i64 ab]) b4) ∧
 (a0 ≠ 1 →
 (a0 = 2 →
 Calls Try.prog 53 #[.agg #[.slice al am an, .int .i64 a9], .agg #[.int .i64 a0, .int .i64 af, .int .u64 a2, .int .i64 a5, .slice a1 a3 a4, .slice a7 a6 aa]] ad fun b9 ax => ∃ (az : Option Addr) (b5 au : Nat) (ai ae : Int), b9 = .returned (.tuple #[.agg #[.slice az b5 au, .int .i64 ai], .int .i64 ae]) ∧
 Keep [ak] ad ax ∧
 ∀ (b3 : World), Ext (fun b => b = ak) ax b3 →
 R (.tuple #[.agg #[.slice az b5 au, .int .i64 ai], .int .i64 ae]) b3) ∧
 (a0 ≠ 2 →
 Calls Try.prog 51 #[.agg #[.slice al am an, .int .i64 a9], .agg #[.int .i64 a0, .int .i64 af, .int .u64 a2, .int .i64 a5, .slice a1 a3 a4, .slice a7 a6 aa]] ad fun b7 aq => ∃ (ar : Option Addr) (b2 ay : Nat) (ah ac : Int), b7 = .returned (.tuple #[.agg #[.slice ar b2 ay, .int .i64 ah], .int .i64 ac]) ∧
 Keep [ak] ad aq ∧
 ∀ (ap : World), Ext (fun b => b = ak) aq ap →
 R (.tuple #[.agg #[.slice ar b2 ay, .int .i64 ah], .int .i64 ac]) ap)))

theorem Q0P.up (ah : Option Addr) (ai aj : Nat) (a0 a6 ad a2 a5 : Int) (a1 : Option Addr) (a3 a4 : Nat) (a8 : Option Addr) (a7 ab : Nat) {R : RW} {w : World} (h : Q0P.N ah ai aj a0 a6 ad a2 a5 a1 a3 a4 a8 a7 ab R w) : Q0P.M ah ai aj a0 a6 ad a2 a5 a1 a3 a4 a8 a7 ab R w := by
  unfold Q0P.M
  unfold Q0P.N at h
  refine Q01 fun bi e9 => ?_
  have ac := Blk.of_new e9
  have ba := ((Ext.refl no w)).size
  have b6 := (Ext.refl no w).x_alloc e9
  refine Q01 fun ag b5 => ?_
  have aa := Blk.of_new b5
  have bh := (b6).size
  have b9 := Nat.ne_of_lt ac.lt
  have ac := ac.x_alloc b5
  have ar := b6.x_alloc b5
  refine Q01 fun b2 av => ?_
  have ae := Blk.of_new av
  have bg := (ar).size
  have b7 := Nat.ne_of_lt ac.lt
  have ac := ac.x_alloc av
  have b8 := Nat.ne_of_lt aa.lt
  have aa := aa.x_alloc av
  have b1 := ar.x_alloc av
  refine ⟨a6, ad, a2, a5, a1, a3, a4, a8, a7, ab, ⟨aa.celli 0 rfl rfl, aa.celli 1 rfl rfl, aa.celli 2 rfl rfl, aa.celli 3 rfl rfl, aa.celli 4 rfl rfl, aa.celli 5 rfl rfl, trivial⟩, ?_⟩
  have h := h b2 (w.heap.size) (bi.heap.size) (ag.heap.size) b1 (Priv.cons ba ac.lt (Priv.cons bh aa.lt (Priv.cons bg ae.lt Priv.nil)))
  refine h.mono fun bb ap h => ?_
  obtain ⟨ak, he, hk, h⟩ := h
  refine ⟨ak, he, ?_⟩
  have ac := hk.blk ac (by simp)
  have aa := hk.blk aa (by simp)
  have ae := hk.blk ae (by simp)
  refine bif_of (fun aw => ?_) (fun aw => ?_)
  ·have h := h.1 (not_t aw)
   have ay : Ext (fun b => b = ag.heap.size) ap ap := ((Ext.refl no ap)).none
   refine Q0p (k := 0) (j := 0) ae (Nat.le_of_ble_eq_true rfl) fun aq be bf => ?_
   have b3 := ay.x_puts be (.inl rfl)
   have ae : Blk aq ag.heap.size 64 [.slice none 0 0, .int .i64 0] := bf
   refine ⟨none, 0, 0, 0, ⟨ae.celli 0 rfl rfl, ae.celli 1 rfl rfl, trivial⟩, ?_⟩
   have h := h aq b3
   exact h
  have h := h.2 (not_f aw)
  unfold Q0P.J4
  refine ⟨ah, ai, aj, a0, ⟨ac.celli 0 rfl rfl, ac.celli 1 rfl rfl, trivial⟩, ?_⟩
  refine ⟨a6, aa.celli 0 rfl rfl, ?_⟩
  refine bif_of (fun az => ?_) (fun az => ?_)
  have h := h.1 (beq_t az)
  refine ⟨ah, ai, aj, a0, ⟨ac.celli 0 rfl rfl, ac.celli 1 rfl rfl, trivial⟩, ?_⟩
  rotate_left
  focus
   have h := h.2 (beq_f az)
   refine bif_of (fun b4 => ?_) (fun b4 => ?_)
   have h := h.1 (beq_t b4)
   refine ⟨ah, ai, aj, a0, ⟨ac.celli 0 rfl rfl, ac.celli 1 rfl rfl, trivial⟩, ?_⟩
   rotate_left
   have h := h.2 (beq_f b4)
   rotate_left
  rotate_left 2
  all_goals
   first | unfold Q0P.J1 | unfold Q0P.J2 | unfold Q0P.J3
   refine ⟨a6, ad, a2, a5, a1, a3, a4, a8, a7, ab, ⟨aa.celli 0 rfl rfl, aa.celli 1 rfl rfl, aa.celli 2 rfl rfl, aa.celli 3 rfl rfl, aa.celli 4 rfl rfl, aa.celli 5 rfl rfl, trivial⟩, ?_⟩
   refine h.mono fun bd am h => ?_
   obtain ⟨al, ao, an, a9, af, he, hk, h⟩ := h
   refine ⟨al, ao, an, a9, af, he, ?_⟩
   have ae := hk.blk ae (by simp)
   have b0 : Ext (fun b => b = ag.heap.size) am am := ((Ext.refl no am)).none
   refine Q0p (k := 0) (j := 0) ae (Nat.le_of_ble_eq_true rfl) fun au bj bc => ?_
   have ax := b0.x_puts bj (.inl rfl)
   have ae : Blk au ag.heap.size 64 [.slice al ao an, .int .i64 a9] := bc
   refine ⟨al, ao, an, a9, ⟨ae.celli 0 rfl rfl, ae.celli 1 rfl rfl, trivial⟩, ?_⟩
   have h := h au ax
   exact h

theorem Q0P.go (ad : Option Addr) (ab ac : Nat) (a4 a9 aa a0 a5 : Int) (a2 : Option Addr) (a1 a3 : Nat) (a7 : Option Addr) (a8 a6 : Nat) {R : RW} {w : World} (h : Q0P.N ad ab ac a4 a9 aa a0 a5 a2 a1 a3 a7 a8 a6 R w) : Calls Try.prog 23 #[.agg #[.slice ad ab ac, .int .i64 a4], .agg #[.int .i64 a9, .int .i64 aa, .int .u64 a0, .int .i64 a5, .slice a2 a1 a3, .slice a7 a8 a6]] w fun e w' => ∃ v, e = .returned v ∧ R v w' := Q0P.ok ad ab ac a4 a9 aa a0 a5 a2 a1 a3 a7 a8 a6 (Q0P.up ad ab ac a4 a9 aa a0 a5 a2 a1 a3 a7 a8 a6 h)
abbrev Q17.J1 (am : Option Addr) (ak an : Nat) (ac : Int) (I0 : Nat → List Value → World → Prop) (aq : Option Addr) (ar m8 : Nat) (R : RW) (a7 : World) : Prop :=
 aq.elim False fun ap =>
 0 ≤ (ac : Int) ∧ (ac : Int) < (ar : Int) ∧
 ∃ (a6 a0 a4 aa a2 : Int), cellsAt a7 (ap.add (Int.toNat ac * 5)) [.int .i64 a6, .int .u64 a0, .int .i64 a4, .int .i64 aa, .int .i64 a2] 0 ∧
 thenW (a7.alloc (.cells #[.int .i64 0, .int .u64 0, .int .i64 0, .int .i64 0, .int .i64 0] 110)) fun ai =>
 putsK ai (blk a7.heap.size) [.int .i64 a6, .int .u64 a0, .int .i64 a4, .int .i64 aa, .int .i64 a2] 0 fun a8 =>
 ∃ (ag : Int), a8.cell? ((blk a7.heap.size).add 3) = some (.int .i64 ag) ∧
 bif ag == (-1) then (
 ∃ (a9 a1 a5 ab a3 : Int), cellsAt a8 (blk a7.heap.size) [.int .i64 a9, .int .u64 a1, .int .i64 a5, .int .i64 ab, .int .i64 a3] 0 ∧
 thenW (a8.alloc (.cells #[.int .i64 a9, .int .u64 a1, .int .i64 a5, .int .i64 ab, .int .i64 a3] 110)) fun aj =>
 ∃ (ae : Option Addr) (ah ad : Nat) (af : World), (Builtin.append_ #[62, 62] 62 #[.slice am ak an, .slice (some (blk a8.heap.size)) 1 1]).run Try.prog aj = .ok (.slice ae ah ad) af ∧
 ∃ ao, ao < m8 ∧ I0 ao [.slice ae ah ad, .int .i64 (IntKind.i64.wrap (ac + 1))] af) else (
 ∃ al, al < m8 ∧ I0 al [.slice am ak an, .int .i64 (IntKind.i64.wrap (ac + 1))] a8)

def Q17.M (a8 : Option Addr) (a4 a5 : Nat) (a3 : Int) (R : RW) (w : World) : Prop :=
 thenW (w.alloc (.cells #[.slice a8 a4 a5, .int .i64 a3] 64)) fun aa =>
 ∃ (a9 : Option Addr) (a6 ab : Nat), aa.cell? ((blk w.heap.size).add 0) = some (.slice a9 a6 ab) ∧
 ∃ (I0 : Nat → List Value → World → Prop) (m7 : Nat), I0 m7 [.slice none 0 0, .int .i64 0] aa ∧ ∀ (m8 : Nat) (a7 : World) (a2 : Option Addr) (a1 a0 : Nat) (t6 : Int), I0 m8 [.slice a2 a1 a0, .int .i64 t6] a7 →
 bif decide (t6 < (a6 : Int)) then (
 Q17.J1 a2 a1 a0 t6 I0 a9 a6 m8 R a7) else (
 R (.slice a2 a1 a0) a7)

theorem Q17.ok (a3 : Option Addr) (a1 a2 : Nat) (a0 : Int) {R : RW} {w : World} (h : Q17.M a3 a1 a2 a0 R w) : Calls Try.prog 40 #[.agg #[.slice a3 a1 a2, .int .i64 a0]] w fun e w' => ∃ v, e = .returned v ∧ R v w' :=
  Q0i follows (H := [(0, [6, 7], [(2, (.one .slice)), (8, (.one (.int .i64)))])]) (args := [.agg #[.slice a3 a1 a2, .int .i64 a0]]) (cast (by kernel_rfl) h)

def Q17.N (ai : Option Addr) (a9 an : Nat) (ag : Int) (R : RW) (w : World) : Prop :=
 ∀ (am : World), Ext no w am →
 ∃ (I0 : Nat → List Value → World → Prop) (m7 : Nat), I0 m7 [.slice none 0 0, .int .i64 0] am ∧ ∀ (m8 : Nat) (aa : World) (a3 : Option Addr) (a2 a1 : Nat) (t6 : Int), I0 m8 [.slice a3 a2 a1, .int .i64 t6] aa →
 (t6 < (a9 : Int) →
 ∃ aj : Addr, ai = some aj ∧
 0 ≤ (t6 : Int) ∧ (t6 : Int) < (a9 : Int) ∧
 ∃ (a7 a0 a6 a5 a4 : Int), cellsAt aa (aj.add (Int.toNat t6 * 5)) [.int .i64 a7, .int .u64 a0, .int .i64 a6, .int .i64 a5, .int .i64 a4] 0 ∧
 (a5 = (-1) →
 ∀ (a8 : World) (ah : Nat), Ext no aa a8 → Blk a8 ah 110 [.int .i64 a7, .int .u64 a0, .int .i64 a6, .int .i64 a5, .int .i64 a4] → aa.heap.size ≤ ah → ah < a8.heap.size →
 ∃ (ae : Option Addr) (af ab : Nat) (ac : World), (Builtin.append_ #[62, 62] 62 #[.slice a3 a2 a1, .slice (some (blk ah)) 1 1]).run Try.prog a8 = .ok (.slice ae af ab) ac ∧
 (-9223372036854775808 : Int) ≤ (t6 + 1) ∧ (t6 + 1) < 9223372036854775808 ∧
 ∃ al, al < m8 ∧ I0 al [.slice ae af ab, .int .i64 (t6 + 1)] ac) ∧
 (a5 ≠ (-1) →
 (-9223372036854775808 : Int) ≤ (t6 + 1) ∧ (t6 + 1) < 9223372036854775808 ∧
 ∀ (ad : World), Ext no aa ad →
 ∃ ak, ak < m8 ∧ I0 ak [.slice a3 a2 a1, .int .i64 (t6 + 1)] ad)) ∧
 ((a9 : Int) ≤ t6 →
 R (.slice a3 a2 a1) aa)

theorem Q17.up (ae : Option Addr) (ac ad : Nat) (a5 : Int) {R : RW} {w : World} (h : Q17.N ae ac ad a5 R w) : Q17.M ae ac ad a5 R w := by
  unfold Q17.M
  unfold Q17.N at h
  refine Q01 fun b6 e3 => ?_
  have b2 := Blk.of_new e3
  have b7 := ((Ext.refl no w)).size
  have az := (Ext.refl no w).x_alloc e3
  refine ⟨ae, ac, ad, b2.celli 0 rfl rfl, ?_⟩
  have h := h b6 az
  obtain ⟨I0, m7, h0, h⟩ := h
  refine ⟨I0, m7, h0, fun m8 af ab a8 a7 t6 hI => ?_⟩
  have h := h m8 af ab a8 a7 t6 hI
  refine bif_fo (fun aj => ?_) (fun aj => ?_)
  ·have h := h.2 (Int.not_lt.1 (of_decide_eq_false aj))
   exact h
  have h := h.1 (of_decide_eq_true aj)
  unfold Q17.J1
  obtain ⟨b8, ar, h⟩ := h
  refine Q05 ar ?_
  obtain ⟨b5, ax, h⟩ := h
  refine ⟨b5, ax, ?_⟩
  obtain ⟨a3, a0, a2, a4, a1, ah, h⟩ := h
  refine ⟨a3, a0, a2, a4, a1, ah, ?_⟩
  refine Q01 fun b1 av => ?_
  have a6 := Blk.of_new av
  have aw := ((Ext.refl no af)).size
  have ai := (Ext.refl no af).x_alloc av
  refine Q0p (k := 0) (j := 0) a6 (Nat.le_of_ble_eq_true rfl) fun a9 b3 b4 => ?_
  have aa := ai.x_puts b3 (.inr aw)
  have a6 : Blk a9 af.heap.size 110 [.int .i64 a3, .int .u64 a0, .int .i64 a2, .int .i64 a4, .int .i64 a1] := b4
  refine ⟨a4, a6.celli 3 rfl rfl, ?_⟩
  refine bif_fo (fun ag => ?_) (fun ag => ?_)
  ·have h := h.2 (beq_f ag)
   obtain ⟨ap, ao, h⟩ := h
   try rw [w64 ap ao]
   have h := h a9 aa
   obtain ⟨ay, hk, h⟩ := h
   exact ⟨ay, hk, h⟩
  have h := h.1 (beq_t ag)
  refine ⟨a3, a0, a2, a4, a1, ⟨a6.celli 0 rfl rfl, a6.celli 1 rfl rfl, a6.celli 2 rfl rfl, a6.celli 3 rfl rfl, a6.celli 4 rfl rfl, trivial⟩, ?_⟩
  refine Q01 fun al ak => ?_
  have h := h al a9.heap.size (aa.x_alloc ak) (Blk.of_new ak) (aa).size (Q0x ak)
  obtain ⟨aq, au, am, an, hr, h⟩ := h
  refine ⟨aq, au, am, an, hr, ?_⟩
  obtain ⟨ap, ao, h⟩ := h
  try rw [w64 ap ao]
  obtain ⟨b0, hk, h⟩ := h
  exact ⟨b0, hk, h⟩

theorem Q17.go (a3 : Option Addr) (a1 a2 : Nat) (a0 : Int) {R : RW} {w : World} (h : Q17.N a3 a1 a2 a0 R w) : Calls Try.prog 40 #[.agg #[.slice a3 a1 a2, .int .i64 a0]] w fun e w' => ∃ v, e = .returned v ∧ R v w' := Q17.ok a3 a1 a2 a0 (Q17.up a3 a1 a2 a0 h)
def Q03.M (au : Option Addr) (al ax : Nat) (a2 : Int) (a5 : Nat) (ab ac : Array Value) (R : RW) (w : World) : Prop :=
 ∃ (I0 : Nat → List Value → World → Prop) (m6 : Nat), I0 m6 [.int .i64 0, .int .i64 (al : Int)] w ∧ ∀ (m7 : Nat) (af : World) (i4 j5 : Int), I0 m7 [.int .i64 i4, .int .i64 j5] af →
 bif decide (i4 < j5) then (
 0 ≤ (1 : Int) ∧
 au.elim False fun a9 =>
 0 ≤ ((IntKind.i64.wrap (Int.fdiv (IntKind.u64.wrap (IntKind.i64.wrap (i4 + j5))) (2 ^ (min (Int.toNat 1) (IntKind.bits .u64))))) : Int) ∧ ((IntKind.i64.wrap (Int.fdiv (IntKind.u64.wrap (IntKind.i64.wrap (i4 + j5))) (2 ^ (min (Int.toNat 1) (IntKind.bits .u64))))) : Int) < (al : Int) ∧
 ∃ (aa a0 a6 ad a3 : Int), cellsAt af (a9.add (Int.toNat (IntKind.i64.wrap (Int.fdiv (IntKind.u64.wrap (IntKind.i64.wrap (i4 + j5))) (2 ^ (min (Int.toNat 1) (IntKind.bits .u64))))) * 5)) [.int .i64 aa, .int .u64 a0, .int .i64 a6, .int .i64 ad, .int .i64 a3] 0 ∧
 bif enters Try.prog a5 then Calls Try.prog a5 (ab.toList ++ ([.agg #[.int .i64 aa, .int .u64 a0, .int .i64 a6, .int .i64 ad, .int .i64 a3], .int .i64 a2] : List Value) ++ ac.toList).toArray af (fun am aj => ∃ (ak : Int), am = .returned (.int .i64 ak) ∧
 bif decide (ak < 0) then (
 ∃ av, av < m7 ∧ I0 av [.int .i64 (IntKind.i64.wrap ((IntKind.i64.wrap (Int.fdiv (IntKind.u64.wrap (IntKind.i64.wrap (i4 + j5))) (2 ^ (min (Int.toNat 1) (IntKind.bits .u64))))) + 1)), .int .i64 j5] aj) else (
 ∃ ap, ap < m7 ∧ I0 ap [.int .i64 i4, .int .i64 (IntKind.i64.wrap (Int.fdiv (IntKind.u64.wrap (IntKind.i64.wrap (i4 + j5))) (2 ^ (min (Int.toNat 1) (IntKind.bits .u64)))))] aj)) else (∃ (ak : Int) (ag : World), (Q1l a5 (ab.toList ++ ([.agg #[.int .i64 aa, .int .u64 a0, .int .i64 a6, .int .i64 ad, .int .i64 a3], .int .i64 a2] : List Value) ++ ac.toList).toArray).run Try.prog af = .ok (.int .i64 ak) ag ∧
 bif decide (ak < 0) then (
 ∃ ar, ar < m7 ∧ I0 ar [.int .i64 (IntKind.i64.wrap ((IntKind.i64.wrap (Int.fdiv (IntKind.u64.wrap (IntKind.i64.wrap (i4 + j5))) (2 ^ (min (Int.toNat 1) (IntKind.bits .u64))))) + 1)), .int .i64 j5] ag) else (
 ∃ aq, aq < m7 ∧ I0 aq [.int .i64 i4, .int .i64 (IntKind.i64.wrap (Int.fdiv (IntKind.u64.wrap (IntKind.i64.wrap (i4 + j5))) (2 ^ (min (Int.toNat 1) (IntKind.bits .u64)))))] ag))) else (
 bif decide (i4 < (al : Int)) then (
 au.elim False fun aw =>
 0 ≤ (i4 : Int) ∧ (i4 : Int) < (al : Int) ∧
 ∃ (a8 a1 a7 ae a4 : Int), cellsAt af (aw.add (Int.toNat i4 * 5)) [.int .i64 a8, .int .u64 a1, .int .i64 a7, .int .i64 ae, .int .i64 a4] 0 ∧
 bif enters Try.prog a5 then Calls Try.prog a5 (ab.toList ++ ([.agg #[.int .i64 a8, .int .u64 a1, .int .i64 a7, .int .i64 ae, .int .i64 a4], .int .i64 a2] : List Value) ++ ac.toList).toArray af (fun ao an => ∃ (ai : Int), ao = .returned (.int .i64 ai) ∧
 R (.tuple #[.int .i64 i4, .bool (ai == 0)]) an) else (∃ (ai : Int) (ah : World), (Q1l a5 (ab.toList ++ ([.agg #[.int .i64 a8, .int .u64 a1, .int .i64 a7, .int .i64 ae, .int .i64 a4], .int .i64 a2] : List Value) ++ ac.toList).toArray).run Try.prog af = .ok (.int .i64 ai) ah ∧
 R (.tuple #[.int .i64 i4, .bool (ai == 0)]) ah)) else (
 R (.tuple #[.int .i64 i4, .bool false]) af))

theorem Q03.ok (a6 : Option Addr) (a4 a5 : Nat) (a0 : Int) (a2 : Nat) (a1 a3 : Array Value) {R : RW} {w : World} (h : Q03.M a6 a4 a5 a0 a2 a1 a3 R w) : Calls Try.prog 92 #[.slice a6 a4 a5, .int .i64 a0, .func (.func a2) a1 a3] w fun e w' => ∃ v, e = .returned v ∧ R v w' :=
  Q0i follows (H := [(0, [0, 1, 2, 8], [(9, (.one (.int .i64))), (10, (.one (.int .i64)))])]) (args := [.slice a6 a4 a5, .int .i64 a0, .func (.func a2) a1 a3]) (cast (by kernel_rfl) h)

def Q03.N (ap : Option Addr) (ag ar : Nat) (a4 : Int) (a7 : Nat) (ab ac : Array Value) (R : RW) (w : World) : Prop :=
 ∃ (I0 : Nat → List Value → World → Prop) (m6 : Nat), I0 m6 [.int .i64 0, .int .i64 (ag : Int)] w ∧ ∀ (m7 : Nat) (ae : World) (i4 j5 : Int), I0 m7 [.int .i64 i4, .int .i64 j5] ae →
 (i4 < j5 →
 (-9223372036854775808 : Int) ≤ (i4 + j5) ∧ (i4 + j5) < 9223372036854775808 ∧
 (-9223372036854775808 : Int) ≤ ((IntKind.u64.wrap (i4 + j5)) / 2) ∧ ((IntKind.u64.wrap (i4 + j5)) / 2) < 9223372036854775808 ∧
 ∃ aq : Addr, ap = some aq ∧
 0 ≤ (((IntKind.u64.wrap (i4 + j5)) / 2) : Int) ∧ (((IntKind.u64.wrap (i4 + j5)) / 2) : Int) < (ag : Int) ∧
 ∃ (a8 a1 a6 ad a3 : Int), cellsAt ae (aq.add (Int.toNat ((IntKind.u64.wrap (i4 + j5)) / 2) * 5)) [.int .i64 a8, .int .u64 a1, .int .i64 a6, .int .i64 ad, .int .i64 a3] 0 ∧
 enters Try.prog a7 = true ∧ Calls Try.prog a7 (ab.toList ++ ([.agg #[.int .i64 a8, .int .u64 a1, .int .i64 a6, .int .i64 ad, .int .i64 a3], .int .i64 a4] : List Value) ++ ac.toList).toArray ae (fun ai af => ∃ (ah : Int), ai = .returned (.int .i64 ah) ∧
 (ah < 0 →
 (-9223372036854775808 : Int) ≤ (((IntKind.u64.wrap (i4 + j5)) / 2) + 1) ∧ (((IntKind.u64.wrap (i4 + j5)) / 2) + 1) < 9223372036854775808 ∧
 ∃ ao, ao < m7 ∧ I0 ao [.int .i64 (((IntKind.u64.wrap (i4 + j5)) / 2) + 1), .int .i64 j5] af) ∧
 ((0 : Int) ≤ ah →
 ∃ am, am < m7 ∧ I0 am [.int .i64 i4, .int .i64 ((IntKind.u64.wrap (i4 + j5)) / 2)] af))) ∧
 (j5 ≤ i4 →
 (i4 < (ag : Int) →
 ∃ al : Addr, ap = some al ∧
 0 ≤ (i4 : Int) ∧ (i4 : Int) < (ag : Int) ∧
 ∃ (a9 a0 a5 aa a2 : Int), cellsAt ae (al.add (Int.toNat i4 * 5)) [.int .i64 a9, .int .u64 a0, .int .i64 a5, .int .i64 aa, .int .i64 a2] 0 ∧
 enters Try.prog a7 = true ∧ Calls Try.prog a7 (ab.toList ++ ([.agg #[.int .i64 a9, .int .u64 a0, .int .i64 a5, .int .i64 aa, .int .i64 a2], .int .i64 a4] : List Value) ++ ac.toList).toArray ae (fun ak aj => ∃ (an : Int), ak = .returned (.int .i64 an) ∧
 R (.tuple #[.int .i64 i4, .bool (an == 0)]) aj)) ∧
 ((ag : Int) ≤ i4 →
 R (.tuple #[.int .i64 i4, .bool false]) ae))

theorem Q03.up (ap : Option Addr) (aq ao : Nat) (a0 : Int) (a9 : Nat) (a7 a8 : Array Value) {R : RW} {w : World} (h : Q03.N ap aq ao a0 a9 a7 a8 R w) : Q03.M ap aq ao a0 a9 a7 a8 R w := by
  unfold Q03.M
  unfold Q03.N at h
  obtain ⟨I0, m6, h0, h⟩ := h
  refine ⟨I0, m6, h0, fun m7 av i4 j5 hI => ?_⟩
  have h := h m7 av i4 j5 hI
  refine bif_fo (fun c9 => ?_) (fun c9 => ?_)
  ·have h := h.2 (Int.not_lt.1 (of_decide_eq_false c9))
   refine bif_fo (fun ak => ?_) (fun ak => ?_)
   ·have h := h.2 (Int.not_lt.1 (of_decide_eq_false ak))
    exact h
   have h := h.1 (of_decide_eq_true ak)
   obtain ⟨b2, ai, h⟩ := h
   refine Q05 ai ?_
   obtain ⟨an, ah, h⟩ := h
   refine ⟨an, ah, ?_⟩
   obtain ⟨ab, a1, a5, ac, a3, aj, h⟩ := h
   refine ⟨ab, a1, a5, ac, a3, aj, ?_⟩
   obtain ⟨hen, h⟩ := h
   refine bif_tt hen ?_
   refine h.mono fun b1 b0 h => ?_
   obtain ⟨ax, he, h⟩ := h
   refine ⟨ax, he, ?_⟩
   exact h
  have h := h.1 (of_decide_eq_true c9)
  obtain ⟨af, ad, h⟩ := h
  try rw [w64 af ad]
  refine ⟨by decide, ?_⟩
  try rw [show (2 ^ (min (Int.toNat 1) (IntKind.bits .u64)) : Int) = 2 from rfl]
  try rw [Int.fdiv_eq_ediv_of_nonneg (IntKind.u64.wrap (i4 + j5)) (by decide : (0 : Int) ≤ 2)]
  obtain ⟨af, ad, h⟩ := h
  try rw [w64 af ad]
  obtain ⟨b3, al, h⟩ := h
  refine Q05 al ?_
  obtain ⟨an, ah, h⟩ := h
  refine ⟨an, ah, ?_⟩
  obtain ⟨aa, a2, a6, ae, a4, am, h⟩ := h
  refine ⟨aa, a2, a6, ae, a4, am, ?_⟩
  obtain ⟨hen, h⟩ := h
  refine bif_tt hen ?_
  refine h.mono fun ay au h => ?_
  obtain ⟨ar, he, h⟩ := h
  refine ⟨ar, he, ?_⟩
  refine bif_fo (fun ag => ?_) (fun ag => ?_)
  ·have h := h.2 (Int.not_lt.1 (of_decide_eq_false ag))
   obtain ⟨aw, hk, h⟩ := h
   exact ⟨aw, hk, h⟩
  have h := h.1 (of_decide_eq_true ag)
  obtain ⟨af, ad, h⟩ := h
  try rw [w64 af ad]
  obtain ⟨az, hk, h⟩ := h
  exact ⟨az, hk, h⟩

theorem Q03.go (a6 : Option Addr) (a4 a5 : Nat) (a0 : Int) (a2 : Nat) (a1 a3 : Array Value) {R : RW} {w : World} (h : Q03.N a6 a4 a5 a0 a2 a1 a3 R w) : Calls Try.prog 92 #[.slice a6 a4 a5, .int .i64 a0, .func (.func a2) a1 a3] w fun e w' => ∃ v, e = .returned v ∧ R v w' := Q03.ok a6 a4 a5 a0 a2 a1 a3 (Q03.up a6 a4 a5 a0 a2 a1 a3 h)
theorem Q03.run (a6 : Option Addr) (a4 a5 : Nat) (a0 : Int) (a2 : Nat) (a1 a3 : Array Value) {V : Value} {Q : World → Prop} {w : World} (h : Q03.N a6 a4 a5 a0 a2 a1 a3 (fun v w' => v = V ∧ Q w') w) : Calls Try.prog 92 #[.slice a6 a4 a5, .int .i64 a0, .func (.func a2) a1 a3] w (Ret V Q) := (Q03.go a6 a4 a5 a0 a2 a1 a3 h).mono fun e w' ⟨v, he, hv, hq⟩ => ⟨by rw [he, hv], hq⟩

abbrev Q00.J1 (al : Int) (I0 : Nat → List Value → World → Prop) (b4 : Option Addr) (b1 : Nat) (b0 : Option Addr) (b5 au : Nat) (aw ay : Array Value) (av : Nat) (R : RW) (ae : World) : Prop :=
 b4.elim False fun b2 =>
 0 ≤ (al : Int) ∧ (al : Int) < (b1 : Int) ∧
 ∃ (a9 a2 a7 ah a4 : Int), cellsAt ae (b2.add (Int.toNat al * 5)) [.int .i64 a9, .int .u64 a2, .int .i64 a7, .int .i64 ah, .int .i64 a4] 0 ∧
 thenW (ae.alloc (.cells #[.int .i64 0, .int .u64 0, .int .i64 0, .int .i64 0, .int .i64 0] 110)) fun ar =>
 putsK ar (blk ae.heap.size) [.int .i64 a9, .int .u64 a2, .int .i64 a7, .int .i64 ah, .int .i64 a4] 0 fun ag =>
 b0.elim False fun b3 =>
 0 ≤ (al : Int) ∧ (al : Int) < (b5 : Int) ∧
 ∃ (ad : Int) (aj : Option Addr) (ai ak : Nat), cellsAt ag (b3.add (Int.toNat al * 2)) [.int .i64 ad, .slice aj ai ak] 0 ∧
 thenW (ag.alloc (.cells #[.int .i64 0, .slice none 0 0] 115)) fun ap =>
 putsK ap (blk ag.heap.size) [.int .i64 ad, .slice aj ai ak] 0 fun af =>
 ∃ (a6 a0 a3 ac a1 : Int), cellsAt af (blk ae.heap.size) [.int .i64 a6, .int .u64 a0, .int .i64 a3, .int .i64 ac, .int .i64 a1] 0 ∧
 ∃ (a5 : Int) (ab : Option Addr) (a8 aa : Nat), cellsAt af (blk ag.heap.size) [.int .i64 a5, .slice ab a8 aa] 0 ∧
 bif enters Try.prog au then Calls Try.prog au (aw.toList ++ ([.agg #[.int .i64 a6, .int .u64 a0, .int .i64 a3, .int .i64 ac, .int .i64 a1], .agg #[.int .i64 a5, .slice ab a8 aa]] : List Value) ++ ay.toList).toArray af (fun aq ao => ∃ (an : Bool), aq = .returned (.bool an) ∧
 bif !an then (
 R (.bool false) ao) else (
 ∃ ax, ax < av ∧ I0 ax [.int .i64 (IntKind.i64.wrap (al + 1))] ao)) else (∃ (an : Bool) (am : World), (Q1l au (aw.toList ++ ([.agg #[.int .i64 a6, .int .u64 a0, .int .i64 a3, .int .i64 ac, .int .i64 a1], .agg #[.int .i64 a5, .slice ab a8 aa]] : List Value) ++ ay.toList).toArray).run Try.prog af = .ok (.bool an) am ∧
 bif !an then (
 R (.bool false) am) else (
 ∃ az, az < av ∧ I0 az [.int .i64 (IntKind.i64.wrap (al + 1))] am))

abbrev Q00.J2 (a5 : Option Addr) (a4 : Nat) (a6 : Option Addr) (a9 aa : Nat) (a7 ab : Array Value) (R : RW) (a1 : World) : Prop :=
 ∃ (I0 : Nat → List Value → World → Prop) (a8 : Nat), I0 a8 [.int .i64 0] a1 ∧ ∀ (a3 : Nat) (a0 : World) (a2 : Int), I0 a3 [.int .i64 a2] a0 →
 bif decide (a2 < (a4 : Int)) then (
 Q00.J1 a2 I0 a5 a4 a6 a9 aa a7 ab a3 R a0) else (
 R (.bool true) a0)

def Q00.M (a5 : Option Addr) (a4 a7 : Nat) (a6 : Option Addr) (a3 a8 a1 : Nat) (a2 a0 : Array Value) (R : RW) (w : World) : Prop :=
 bif (a4 : Int) != (a3 : Int) then (
 R (.bool false) w) else (
 Q00.J2 a5 a4 a6 a3 a1 a2 a0 R w)

theorem Q00.ok (a7 : Option Addr) (a4 a5 : Nat) (a8 : Option Addr) (a3 a6 a1 : Nat) (a2 a0 : Array Value) {R : RW} {w : World} (h : Q00.M a7 a4 a5 a8 a3 a6 a1 a2 a0 R w) : Calls Try.prog 81 #[.slice a7 a4 a5, .slice a8 a3 a6, .func (.func a1) a2 a0] w fun e w' => ∃ v, e = .returned v ∧ R v w' :=
  Q0i follows (H := [(0, [1, 2, 15, 16], [(17, (.one (.int .i64)))])]) (args := [.slice a7 a4 a5, .slice a8 a3 a6, .func (.func a1) a2 a0]) (cast (by kernel_rfl) h)

def Q00.N (an : Option Addr) (ac ao : Nat) (am : Option Addr) (ag ap a9 : Nat) (af ah : Array Value) (R : RW) (w : World) : Prop :=
 ((ac : Int) ≠ (ag : Int) →
 R (.bool false) w) ∧
 ((ac : Int) = (ag : Int) →
 ∃ (I0 : Nat → List Value → World → Prop) (m6 : Nat), I0 m6 [.int .i64 0] w ∧ ∀ (m7 : Nat) (ab : World) (t5 : Int), I0 m7 [.int .i64 t5] ab →
 (t5 < (ac : Int) →
 ∃ al : Addr, an = some al ∧
 0 ≤ (t5 : Int) ∧ (t5 : Int) < (ac : Int) ∧
 ∃ (a3 a0 a2 a8 a1 : Int), cellsAt ab (al.add (Int.toNat t5 * 5)) [.int .i64 a3, .int .u64 a0, .int .i64 a2, .int .i64 a8, .int .i64 a1] 0 ∧
 ∃ aj : Addr, am = some aj ∧
 0 ≤ (t5 : Int) ∧ (t5 : Int) < (ag : Int) ∧
 ∃ (a4 : Int) (a6 : Option Addr) (a5 a7 : Nat), cellsAt ab (aj.add (Int.toNat t5 * 2)) [.int .i64 a4, .slice a6 a5 a7] 0 ∧
 ∀ (ad : World), Ext no ab ad →
 enters Try.prog a9 = true ∧ Calls Try.prog a9 (af.toList ++ ([.agg #[.int .i64 a3, .int .u64 a0, .int .i64 a2, .int .i64 a8, .int .i64 a1], .agg #[.int .i64 a4, .slice a6 a5 a7]] : List Value) ++ ah.toList).toArray ad (fun ai aa => ∃ (ae : Bool), ai = .returned (.bool ae) ∧
 (ae = false →
 R (.bool false) aa) ∧
 (ae = true →
 (-9223372036854775808 : Int) ≤ (t5 + 1) ∧ (t5 + 1) < 9223372036854775808 ∧
 ∃ ak, ak < m7 ∧ I0 ak [.int .i64 (t5 + 1)] aa))) ∧
 ((ac : Int) ≤ t5 →
 R (.bool true) ab))

theorem Q00.up (b2 : Option Addr) (b1 ax : Nat) (b0 : Option Addr) (b3 ay ab : Nat) (ac af : Array Value) {R : RW} {w : World} (h : Q00.N b2 b1 ax b0 b3 ay ab ac af R w) : Q00.M b2 b1 ax b0 b3 ay ab ac af R w := by
  unfold Q00.M
  unfold Q00.N at h
  refine bif_of (fun c4 => ?_) (fun c4 => ?_)
  ·have h := h.1 (bne_t c4)
   exact h
  have h := h.2 (bne_f c4)
  unfold Q00.J2
  obtain ⟨I0, m6, h0, h⟩ := h
  refine ⟨I0, m6, h0, fun m7 ah t5 hI => ?_⟩
  have h := h m7 ah t5 hI
  refine bif_fo (fun c9 => ?_) (fun c9 => ?_)
  ·have h := h.2 (Int.not_lt.1 (of_decide_eq_false c9))
   exact h
  have h := h.1 (of_decide_eq_true c9)
  unfold Q00.J1
  obtain ⟨bi, aq, h⟩ := h
  refine Q05 aq ?_
  obtain ⟨av, ak, h⟩ := h
  refine ⟨av, ak, ?_⟩
  obtain ⟨a3, a0, a2, a9, a1, ar, h⟩ := h
  refine ⟨a3, a0, a2, a9, a1, ar, ?_⟩
  refine Q01 fun be aw => ?_
  have a5 := Blk.of_new aw
  have b4 := ((Ext.refl no ah)).size
  have al := (Ext.refl no ah).x_alloc aw
  refine Q0p (k := 0) (j := 0) a5 (Nat.le_of_ble_eq_true rfl) fun ad bg b9 => ?_
  have aa := al.x_puts bg (.inr b4)
  have a5 : Blk ad ah.heap.size 110 [.int .i64 a3, .int .u64 a0, .int .i64 a2, .int .i64 a9, .int .i64 a1] := b9
  obtain ⟨bh, au, h⟩ := h
  refine Q05 au ?_
  obtain ⟨av, ak, h⟩ := h
  refine ⟨av, ak, ?_⟩
  obtain ⟨a4, a7, a6, a8, ao, h⟩ := h
  refine ⟨a4, a7, a6, a8, Q1T (aa) ao, ?_⟩
  refine Q01 fun bc an => ?_
  have ai := Blk.of_new an
  have bf := (aa).size
  have ae := Nat.ne_of_lt a5.lt
  have a5 := a5.x_alloc an
  have aj := aa.x_alloc an
  refine Q0p (k := 0) (j := 0) ai (Nat.le_of_ble_eq_true rfl) fun ag az b6 => ?_
  have ap := aj.x_puts az (.inr bf)
  have a5 := a5.x_puts az ae
  have ai : Blk ag ad.heap.size 115 [.int .i64 a4, .slice a7 a6 a8] := b6
  refine ⟨a3, a0, a2, a9, a1, ⟨a5.celli 0 rfl rfl, a5.celli 1 rfl rfl, a5.celli 2 rfl rfl, a5.celli 3 rfl rfl, a5.celli 4 rfl rfl, trivial⟩, ?_⟩
  refine ⟨a4, a7, a6, a8, ⟨ai.celli 0 rfl rfl, ai.celli 1 rfl rfl, trivial⟩, ?_⟩
  have h := h ag ap
  obtain ⟨hen, h⟩ := h
  refine bif_tt hen ?_
  refine h.mono fun bd b7 h => ?_
  obtain ⟨b5, he, h⟩ := h
  refine ⟨b5, he, ?_⟩
  refine bif_of (fun am => ?_) (fun am => ?_)
  ·have h := h.1 (not_t am)
   exact h
  have h := h.2 (not_f am)
  obtain ⟨bb, ba, h⟩ := h
  try rw [w64 bb ba]
  obtain ⟨b8, hk, h⟩ := h
  exact ⟨b8, hk, h⟩

theorem Q00.go (a7 : Option Addr) (a4 a5 : Nat) (a8 : Option Addr) (a3 a6 a1 : Nat) (a2 a0 : Array Value) {R : RW} {w : World} (h : Q00.N a7 a4 a5 a8 a3 a6 a1 a2 a0 R w) : Calls Try.prog 81 #[.slice a7 a4 a5, .slice a8 a3 a6, .func (.func a1) a2 a0] w fun e w' => ∃ v, e = .returned v ∧ R v w' := Q00.ok a7 a4 a5 a8 a3 a6 a1 a2 a0 (Q00.up a7 a4 a5 a8 a3 a6 a1 a2 a0 h)
theorem Q00.run (a7 : Option Addr) (a4 a5 : Nat) (a8 : Option Addr) (a3 a6 a1 : Nat) (a2 a0 : Array Value) {V : Value} {Q : World → Prop} {w : World} (h : Q00.N a7 a4 a5 a8 a3 a6 a1 a2 a0 (fun v w' => v = V ∧ Q w') w) : Calls Try.prog 81 #[.slice a7 a4 a5, .slice a8 a3 a6, .func (.func a1) a2 a0] w (Ret V Q) := (Q00.go a7 a4 a5 a8 a3 a6 a1 a2 a0 h).mono fun e w' ⟨v, he, hv, hq⟩ => ⟨by rw [he, hv], hq⟩

abbrev Q08.J1 (j8 : Option Addr) (j9 a6 : Nat) (R : RW) (a2 : World) : Prop :=
 thenW (a2.alloc (.cells #[] 110)) fun a5 =>
 ∃ (a0 : Option Addr) (a1 a4 : Nat) (a3 : World), (Builtin.append_ #[62, 62] 62 #[.slice (some (blk a2.heap.size)) 0 0, .slice j8 j9 a6]).run Try.prog a5 = .ok (.slice a0 a1 a4) a3 ∧
 R (.slice a0 a1 a4) a3

def Q08.M (a0 : Option Addr) (a1 a2 : Nat) (R : RW) (w : World) : Prop :=
 bif Option.isNone a0 then (
 R (.slice none 0 0) w) else (
 Q08.J1 a0 a1 a2 R w)

theorem Q08.ok (a1 : Option Addr) (a0 a2 : Nat) {R : RW} {w : World} (h : Q08.M a1 a0 a2 R w) : Calls Try.prog 83 #[.slice a1 a0 a2] w fun e w' => ∃ v, e = .returned v ∧ R v w' :=
  Q0i follows (H := []) (args := [.slice a1 a0 a2]) (cast (by kernel_rfl) h)

def Q08.N (a1 : Option Addr) (a6 a7 : Nat) (R : RW) (w : World) : Prop :=
 (a1 = none →
 R (.slice none 0 0) w) ∧
 (a1 ≠ none →
 ∀ (a0 : World) (q4 : Nat), Ext no w a0 → Blk a0 q4 110 [] → w.heap.size ≤ q4 → q4 < a0.heap.size →
 ∃ (a4 : Option Addr) (a5 a3 : Nat) (a2 : World), (Builtin.append_ #[62, 62] 62 #[.slice (some (blk q4)) 0 0, .slice a1 a6 a7]).run Try.prog a0 = .ok (.slice a4 a5 a3) a2 ∧
 R (.slice a4 a5 a3) a2)

theorem Q08.up (a2 : Option Addr) (a0 a1 : Nat) {R : RW} {w : World} (h : Q08.N a2 a0 a1 R w) : Q08.M a2 a0 a1 R w := by
  unfold Q08.M
  unfold Q08.N at h
  refine bif_of (fun c2 => ?_) (fun c2 => ?_)
  ·have h := h.1 (Q1B c2)
   exact h
  have h := h.2 (Q1C c2)
  unfold Q08.J1
  refine Q01 fun a7 e3 => ?_
  have h := h a7 w.heap.size ((Ext.refl no w).x_alloc e3) (Blk.of_new e3) ((Ext.refl no w)).size (Q0x e3)
  obtain ⟨a5, a6, a4, a3, hr, h⟩ := h
  refine ⟨a5, a6, a4, a3, hr, ?_⟩
  exact h

theorem Q08.go (a1 : Option Addr) (a0 a2 : Nat) {R : RW} {w : World} (h : Q08.N a1 a0 a2 R w) : Calls Try.prog 83 #[.slice a1 a0 a2] w fun e w' => ∃ v, e = .returned v ∧ R v w' := Q08.ok a1 a0 a2 (Q08.up a1 a0 a2 h)
abbrev Q02.J1 (a2 : Option Addr) (a3 a4 : Nat) (a1 ad a0 : Int) (ab : Option Addr) (aa ac : Nat) (R : RW) (a8 : World) : Prop :=
 (0 : Int) ≤ (a1 : Int) ∧ (a1 : Int) ≤ (a3 : Int) ∧
 ∃ (a9 : Int) (a5 : World), (Builtin.copy_ #[62, 62] 3 #[.slice (if a4 = Int.toNat a1 then a2 else Option.map (fun z : Addr => z.add ((Int.toNat a1) * 5)) a2) (a3 - (Int.toNat a1)) (a4 - (Int.toNat a1)), .slice ab aa ac]).run Try.prog a8 = .ok (.int .i64 a9) a5 ∧
 (0 : Int) ≤ (a0 : Int) ∧ (a0 : Int) ≤ (a3 : Int) ∧
 Calls Try.prog 96 #[.slice (if a4 = Int.toNat a0 then a2 else Option.map (fun z : Addr => z.add ((Int.toNat a0) * 5)) a2) (a3 - (Int.toNat a0)) (a4 - (Int.toNat a0)), .int .i64 ad] a5 fun a7 a6 => a7 = .returned (.tuple #[]) ∧
 R (.slice a2 a3 a4) a6

abbrev Q02.J2 (a5 a4 : Int) (a2 : Option Addr) (a1 : Nat) (a0 : Int) (a9 : Option Addr) (aa ab : Nat) (R : RW) (ac : World) : Prop :=
 (0 : Int) ≤ ((IntKind.i64.wrap (a5 + a4)) : Int) ∧ ((IntKind.i64.wrap (a5 + a4)) : Int) ≤ (a1 : Int) ∧
 (0 : Int) ≤ ((IntKind.i64.wrap (a0 + a4)) : Int) ∧ ((IntKind.i64.wrap (a0 + a4)) : Int) ≤ (((Int.toNat (IntKind.i64.wrap (a5 + a4))) - 0 : Nat) : Int) ∧
 ∃ (a3 : Bool) (a6 : World), (Q1l 95 #[.slice a9 aa ab, .slice (if a1 - 0 = Int.toNat (IntKind.i64.wrap (a0 + a4)) then if a1 = 0 then a2 else Option.map (fun z : Addr => z.add (0 * 5)) a2 else Option.map (fun z : Addr => z.add ((Int.toNat (IntKind.i64.wrap (a0 + a4))) * 5)) (if a1 = 0 then a2 else Option.map (fun z : Addr => z.add (0 * 5)) a2)) (((Int.toNat (IntKind.i64.wrap (a5 + a4))) - 0) - (Int.toNat (IntKind.i64.wrap (a0 + a4)))) ((a1 - 0) - (Int.toNat (IntKind.i64.wrap (a0 + a4))))]).run Try.prog ac = .ok (.bool a3) a6 ∧
 bif !a3 then (
 thenW (a6.drew) fun ad =>
 (0 : Int) ≤ ((IntKind.i64.wrap (a0 + a4)) : Int) ∧ ((IntKind.i64.wrap (a0 + a4)) : Int) ≤ (((Int.toNat (IntKind.i64.wrap (a5 + a4))) - 0 : Nat) : Int) ∧
 (0 : Int) ≤ (a0 : Int) ∧ (a0 : Int) ≤ (((Int.toNat (IntKind.i64.wrap (a5 + a4))) - 0 : Nat) : Int) ∧
 ∃ (ae : Int) (a8 : World), (Builtin.copy_ #[62, 62] 3 #[.slice (if a1 - 0 = Int.toNat (IntKind.i64.wrap (a0 + a4)) then if a1 = 0 then a2 else Option.map (fun z : Addr => z.add (0 * 5)) a2 else Option.map (fun z : Addr => z.add ((Int.toNat (IntKind.i64.wrap (a0 + a4))) * 5)) (if a1 = 0 then a2 else Option.map (fun z : Addr => z.add (0 * 5)) a2)) (((Int.toNat (IntKind.i64.wrap (a5 + a4))) - 0) - (Int.toNat (IntKind.i64.wrap (a0 + a4)))) ((a1 - 0) - (Int.toNat (IntKind.i64.wrap (a0 + a4)))), .slice (if a1 - 0 = Int.toNat a0 then if a1 = 0 then a2 else Option.map (fun z : Addr => z.add (0 * 5)) a2 else Option.map (fun z : Addr => z.add ((Int.toNat a0) * 5)) (if a1 = 0 then a2 else Option.map (fun z : Addr => z.add (0 * 5)) a2)) (((Int.toNat (IntKind.i64.wrap (a5 + a4))) - 0) - (Int.toNat a0)) ((a1 - 0) - (Int.toNat a0))]).run Try.prog ad = .ok (.int .i64 ae) a8 ∧
 (0 : Int) ≤ (a0 : Int) ∧ (a0 : Int) ≤ (((Int.toNat (IntKind.i64.wrap (a5 + a4))) - 0 : Nat) : Int) ∧
 ∃ (af : Int) (a7 : World), (Builtin.copy_ #[62, 62] 3 #[.slice (if a1 - 0 = Int.toNat a0 then if a1 = 0 then a2 else Option.map (fun z : Addr => z.add (0 * 5)) a2 else Option.map (fun z : Addr => z.add ((Int.toNat a0) * 5)) (if a1 = 0 then a2 else Option.map (fun z : Addr => z.add (0 * 5)) a2)) (((Int.toNat (IntKind.i64.wrap (a5 + a4))) - 0) - (Int.toNat a0)) ((a1 - 0) - (Int.toNat a0)), .slice a9 aa ab]).run Try.prog a8 = .ok (.int .i64 af) a7 ∧
 R (.slice (if a1 = 0 then a2 else Option.map (fun z : Addr => z.add (0 * 5)) a2) ((Int.toNat (IntKind.i64.wrap (a5 + a4))) - 0) (a1 - 0)) a7) else (
 Q02.J1 (if a1 = 0 then a2 else Option.map (fun z : Addr => z.add (0 * 5)) a2) ((Int.toNat (IntKind.i64.wrap (a5 + a4))) - 0) (a1 - 0) a5 a4 a0 a9 aa ab R a6)

abbrev Q02.J3 (ab a4 : Int) (a8 : Option Addr) (ag a5 : Nat) (a0 : Int) (ae : Option Addr) (ad af : Nat) (R : RW) (a9 : World) : Prop :=
 bif decide ((IntKind.i64.wrap (ab + a4)) > (a5 : Int)) then (
 (0 : Int) ≤ (a0 : Int) ∧ (a0 : Int) ≤ (a5 : Int) ∧
 ∃ (a2 : Option Addr) (a1 a3 : Nat) (a6 : World), (Builtin.append_ #[62, 3] 62 #[.slice (if a5 = 0 then a8 else Option.map (fun z : Addr => z.add (0 * 5)) a8) ((Int.toNat a0) - 0) (a5 - 0), .int .i64 (IntKind.i64.wrap ((IntKind.i64.wrap (ab + a4)) - a0))]).run Try.prog a9 = .ok (.slice a2 a1 a3) a6 ∧
 (0 : Int) ≤ (a0 : Int) ∧ (a0 : Int) ≤ (a1 : Int) ∧
 ∃ (ah : Int) (a7 : World), (Builtin.copy_ #[62, 62] 3 #[.slice (if a3 = Int.toNat a0 then a2 else Option.map (fun z : Addr => z.add ((Int.toNat a0) * 5)) a2) (a1 - (Int.toNat a0)) (a3 - (Int.toNat a0)), .slice ae ad af]).run Try.prog a6 = .ok (.int .i64 ah) a7 ∧
 thenW (a7.drew) fun ac =>
 (0 : Int) ≤ ((IntKind.i64.wrap (a0 + a4)) : Int) ∧ ((IntKind.i64.wrap (a0 + a4)) : Int) ≤ (a1 : Int) ∧
 (0 : Int) ≤ (a0 : Int) ∧ (a0 : Int) ≤ (ag : Int) ∧
 ∃ (ai : Int) (aa : World), (Builtin.copy_ #[62, 62] 3 #[.slice (if a3 = Int.toNat (IntKind.i64.wrap (a0 + a4)) then a2 else Option.map (fun z : Addr => z.add ((Int.toNat (IntKind.i64.wrap (a0 + a4))) * 5)) a2) (a1 - (Int.toNat (IntKind.i64.wrap (a0 + a4)))) (a3 - (Int.toNat (IntKind.i64.wrap (a0 + a4)))), .slice (if a5 = Int.toNat a0 then a8 else Option.map (fun z : Addr => z.add ((Int.toNat a0) * 5)) a8) (ag - (Int.toNat a0)) (a5 - (Int.toNat a0))]).run Try.prog ac = .ok (.int .i64 ai) aa ∧
 R (.slice a2 a1 a3) aa) else (
 Q02.J2 ab a4 a8 a5 a0 ae ad af R a9)

abbrev Q02.J4 (j6 : Int) (a9 : Option Addr) (a5 ab : Nat) (aa : Int) (a8 : Option Addr) (a7 a6 : Nat) (R : RW) (a3 : World) : Prop :=
 bif aa == (a5 : Int) then (
 ∃ (a1 : Option Addr) (a0 a4 : Nat) (a2 : World), (Builtin.append_ #[62, 62] 62 #[.slice a9 a5 ab, .slice a8 a7 a6]).run Try.prog a3 = .ok (.slice a1 a0 a4) a2 ∧
 R (.slice a1 a0 a4) a2) else (
 Q02.J3 (a5 : Int) j6 a9 a5 ab aa a8 a7 a6 R a3)

def Q02.M (a3 : Option Addr) (a1 a2 : Nat) (i2 : Int) (a5 : Option Addr) (a0 a4 : Nat) (R : RW) (w : World) : Prop :=
 (0 : Int) ≤ (i2 : Int) ∧ (i2 : Int) ≤ (a1 : Int) ∧
 bif (a0 : Int) == 0 then (
 R (.slice a3 a1 a2) w) else (
 Q02.J4 (a0 : Int) a3 a1 a2 i2 a5 a0 a4 R w)

theorem Q02.ok (a5 : Option Addr) (a3 a4 : Nat) (i2 : Int) (a1 : Option Addr) (a2 a0 : Nat) {R : RW} {w : World} (h : Q02.M a5 a3 a4 i2 a1 a2 a0 R w) : Calls Try.prog 85 #[.slice a5 a3 a4, .int .i64 i2, .slice a1 a2 a0] w fun e w' => ∃ v, e = .returned v ∧ R v w' :=
  Q0i follows (H := []) (args := [.slice a5 a3 a4, .int .i64 i2, .slice a1 a2 a0]) (cast (by kernel_rfl) h)

def Q02.N (a3 : Option Addr) (a1 a2 : Nat) (i2 : Int) (ab : Option Addr) (a0 ac : Nat) (R : RW) (w : World) : Prop :=
 (0 : Int) ≤ (i2 : Int) ∧ (i2 : Int) ≤ (a1 : Int) ∧ 
 ((a0 : Int) = 0 →
 R (.slice a3 a1 a2) w) ∧
 ((a0 : Int) ≠ 0 →
 (i2 = (a1 : Int) →
 ∃ (ao : Option Addr) (an am : Nat) (al : World), (Builtin.append_ #[62, 62] 62 #[.slice a3 a1 a2, .slice ab a0 ac]).run Try.prog w = .ok (.slice ao an am) al ∧
 R (.slice ao an am) al) ∧
 (i2 ≠ (a1 : Int) →
 (-9223372036854775808 : Int) ≤ ((a1 : Int) + (a0 : Int)) ∧ ((a1 : Int) + (a0 : Int)) < 9223372036854775808 ∧
 (((a1 : Int) + (a0 : Int)) > (a2 : Int) →
 (0 : Int) ≤ (i2 : Int) ∧ (i2 : Int) ≤ (a2 : Int) ∧ 
 (-9223372036854775808 : Int) ≤ ((a1 : Int) + (a0 : Int)) ∧ ((a1 : Int) + (a0 : Int)) < 9223372036854775808 ∧
 (-9223372036854775808 : Int) ≤ (((a1 : Int) + (a0 : Int)) - i2) ∧ (((a1 : Int) + (a0 : Int)) - i2) < 9223372036854775808 ∧
 ∃ (ah : Option Addr) (a5 a6 : Nat) (aa : World), (Builtin.append_ #[62, 3] 62 #[.slice a3 (Int.toNat i2) a2, .int .i64 (((a1 : Int) + (a0 : Int)) - i2)]).run Try.prog w = .ok (.slice ah a5 a6) aa ∧
 (0 : Int) ≤ (i2 : Int) ∧ (i2 : Int) ≤ (a5 : Int) ∧ 
 ∃ (au : Int) (ae : World), (Builtin.copy_ #[62, 62] 3 #[.slice (cutA ah a6 (Int.toNat i2) 5) (a5 - (Int.toNat i2)) (a6 - (Int.toNat i2)), .slice ab a0 ac]).run Try.prog aa = .ok (.int .i64 au) ae ∧
 (-9223372036854775808 : Int) ≤ (i2 + (a0 : Int)) ∧ (i2 + (a0 : Int)) < 9223372036854775808 ∧
 (0 : Int) ≤ ((i2 + (a0 : Int)) : Int) ∧ ((i2 + (a0 : Int)) : Int) ≤ (a5 : Int) ∧ 
 (0 : Int) ≤ (i2 : Int) ∧ (i2 : Int) ≤ (a1 : Int) ∧ 
 ∀ (a7 : World), Ext no ae a7 →
 ∃ (ar : Int) (ad : World), (Builtin.copy_ #[62, 62] 3 #[.slice (cutA ah a6 (Int.toNat (i2 + (a0 : Int))) 5) (a5 - (Int.toNat (i2 + (a0 : Int)))) (a6 - (Int.toNat (i2 + (a0 : Int)))), .slice (cutA a3 a2 (Int.toNat i2) 5) (a1 - (Int.toNat i2)) (a2 - (Int.toNat i2))]).run Try.prog a7 = .ok (.int .i64 ar) ad ∧
 R (.slice ah a5 a6) ad) ∧
 (((a1 : Int) + (a0 : Int)) ≤ (a2 : Int) →
 (-9223372036854775808 : Int) ≤ ((a1 : Int) + (a0 : Int)) ∧ ((a1 : Int) + (a0 : Int)) < 9223372036854775808 ∧
 (0 : Int) ≤ (((a1 : Int) + (a0 : Int)) : Int) ∧ (((a1 : Int) + (a0 : Int)) : Int) ≤ (a2 : Int) ∧ 
 (-9223372036854775808 : Int) ≤ (i2 + (a0 : Int)) ∧ (i2 + (a0 : Int)) < 9223372036854775808 ∧
 (0 : Int) ≤ ((i2 + (a0 : Int)) : Int) ∧ ((i2 + (a0 : Int)) : Int) ≤ ((Int.toNat ((a1 : Int) + (a0 : Int))) : Int) ∧ 
 ∃ (aj : Bool) (a4 : World), (Q1l 95 #[.slice ab a0 ac, .slice (cutA a3 a2 (Int.toNat (i2 + (a0 : Int))) 5) ((Int.toNat ((a1 : Int) + (a0 : Int))) - (Int.toNat (i2 + (a0 : Int)))) (a2 - (Int.toNat (i2 + (a0 : Int))))]).run Try.prog w = .ok (.bool aj) a4 ∧
 (aj = false →
 (-9223372036854775808 : Int) ≤ (i2 + (a0 : Int)) ∧ (i2 + (a0 : Int)) < 9223372036854775808 ∧
 (0 : Int) ≤ ((i2 + (a0 : Int)) : Int) ∧ ((i2 + (a0 : Int)) : Int) ≤ ((Int.toNat ((a1 : Int) + (a0 : Int))) : Int) ∧ 
 (0 : Int) ≤ (i2 : Int) ∧ (i2 : Int) ≤ ((Int.toNat ((a1 : Int) + (a0 : Int))) : Int) ∧ 
 ∀ (a8 : World), Ext no a4 a8 →
 ∃ (ap : Int) (ag : World), (Builtin.copy_ #[62, 62] 3 #[.slice (cutA a3 a2 (Int.toNat (i2 + (a0 : Int))) 5) ((Int.toNat ((a1 : Int) + (a0 : Int))) - (Int.toNat (i2 + (a0 : Int)))) (a2 - (Int.toNat (i2 + (a0 : Int)))), .slice (cutA a3 a2 (Int.toNat i2) 5) ((Int.toNat ((a1 : Int) + (a0 : Int))) - (Int.toNat i2)) (a2 - (Int.toNat i2))]).run Try.prog a8 = .ok (.int .i64 ap) ag ∧
 (0 : Int) ≤ (i2 : Int) ∧ (i2 : Int) ≤ ((Int.toNat ((a1 : Int) + (a0 : Int))) : Int) ∧ 
 ∃ (av : Int) (af : World), (Builtin.copy_ #[62, 62] 3 #[.slice (cutA a3 a2 (Int.toNat i2) 5) ((Int.toNat ((a1 : Int) + (a0 : Int))) - (Int.toNat i2)) (a2 - (Int.toNat i2)), .slice ab a0 ac]).run Try.prog ag = .ok (.int .i64 av) af ∧
 R (.slice a3 (Int.toNat ((a1 : Int) + (a0 : Int))) a2) af) ∧
 (aj = true →
 (0 : Int) ≤ ((a1 : Int) : Int) ∧ ((a1 : Int) : Int) ≤ ((Int.toNat ((a1 : Int) + (a0 : Int))) : Int) ∧ 
 ∃ (aq : Int) (a9 : World), (Builtin.copy_ #[62, 62] 3 #[.slice (cutA a3 a2 (Int.toNat (a1 : Int)) 5) ((Int.toNat ((a1 : Int) + (a0 : Int))) - (Int.toNat (a1 : Int))) (a2 - (Int.toNat (a1 : Int))), .slice ab a0 ac]).run Try.prog a4 = .ok (.int .i64 aq) a9 ∧
 (0 : Int) ≤ (i2 : Int) ∧ (i2 : Int) ≤ ((Int.toNat ((a1 : Int) + (a0 : Int))) : Int) ∧ 
 Calls Try.prog 96 #[.slice (cutA a3 a2 (Int.toNat i2) 5) ((Int.toNat ((a1 : Int) + (a0 : Int))) - (Int.toNat i2)) (a2 - (Int.toNat i2)), .int .i64 (a0 : Int)] a9 fun ak ai => ak = .returned (.tuple #[]) ∧
 R (.slice a3 (Int.toNat ((a1 : Int) + (a0 : Int))) a2) ai))))

theorem Q02.up (ak : Option Addr) (aj ag : Nat) (i2 : Int) (ah : Option Addr) (al ai : Nat) {R : RW} {w : World} (h : Q02.N ak aj ag i2 ah al ai R w) : Q02.M ak aj ag i2 ah al ai R w := by
  unfold Q02.M
  unfold Q02.N at h
  obtain ⟨a0, a1, h⟩ := h
  refine ⟨a0, a1, ?_⟩
  refine bif_of (fun c4 => ?_) (fun c4 => ?_)
  ·have h := h.1 (beq_t c4)
   exact h
  have h := h.2 (beq_f c4)
  unfold Q02.J4
  refine bif_of (fun c5 => ?_) (fun c5 => ?_)
  ·have h := h.1 (beq_t c5)
   obtain ⟨az, av, ar, aq, hr, h⟩ := h
   refine ⟨az, av, ar, aq, hr, ?_⟩
   exact h
  have h := h.2 (beq_f c5)
  unfold Q02.J3
  obtain ⟨a3, a2, h⟩ := h
  try rw [w64 a3 a2]
  refine bif_of (fun c8 => ?_) (fun c8 => ?_)
  ·have h := h.1 (of_decide_eq_true c8)
   obtain ⟨a0, a1, h⟩ := h
   refine ⟨a0, a1, ?_⟩
   try rw [Q5i]
   obtain ⟨a3, a2, h⟩ := h
   try rw [w64 a3 a2]
   obtain ⟨a3, a2, h⟩ := h
   try rw [w64 a3 a2]
   obtain ⟨an, ay, b1, aa, hr, h⟩ := h
   refine ⟨an, ay, b1, aa, hr, ?_⟩
   obtain ⟨a0, a1, h⟩ := h
   refine ⟨a0, a1, ?_⟩
   obtain ⟨b2, a4, hr, h⟩ := h
   refine ⟨b2, a4, hr, ?_⟩
   refine Q01 fun a7 ax => ?_
   have af := (Ext.refl no a4).x_drew ax
   obtain ⟨a3, a2, h⟩ := h
   try rw [w64 a3 a2]
   obtain ⟨a0, a1, h⟩ := h
   refine ⟨a0, a1, ?_⟩
   obtain ⟨a0, a1, h⟩ := h
   refine ⟨a0, a1, ?_⟩
   have h := h a7 af
   obtain ⟨aw, ac, hr, h⟩ := h
   refine ⟨aw, ac, hr, ?_⟩
   exact h
  have h := h.2 (Int.not_lt.1 (of_decide_eq_false c8))
  unfold Q02.J2
  obtain ⟨a3, a2, h⟩ := h
  try rw [w64 a3 a2]
  obtain ⟨a0, a1, h⟩ := h
  refine ⟨a0, a1, ?_⟩
  try rw [Q5i]
  obtain ⟨a3, a2, h⟩ := h
  try rw [w64 a3 a2]
  obtain ⟨a0, a1, h⟩ := h
  refine ⟨a0, a1, ?_⟩
  obtain ⟨b0, a5, hr, h⟩ := h
  refine ⟨b0, a5, hr, ?_⟩
  refine bif_fo (fun a6 => ?_) (fun a6 => ?_)
  ·have h := h.2 (not_f a6)
   unfold Q02.J1
   obtain ⟨a0, a1, h⟩ := h
   refine ⟨a0, a1, ?_⟩
   obtain ⟨ao, a9, hr, h⟩ := h
   refine ⟨ao, a9, hr, ?_⟩
   obtain ⟨a0, a1, h⟩ := h
   refine ⟨a0, a1, ?_⟩
   refine h.mono fun b4 au h => ?_
   obtain ⟨he, h⟩ := h
   refine ⟨he, ?_⟩
   exact h
  have h := h.1 (not_t a6)
  refine Q01 fun a8 ap => ?_
  have ab := (Ext.refl no a5).x_drew ap
  obtain ⟨a3, a2, h⟩ := h
  try rw [w64 a3 a2]
  obtain ⟨a0, a1, h⟩ := h
  refine ⟨a0, a1, ?_⟩
  obtain ⟨a0, a1, h⟩ := h
  refine ⟨a0, a1, ?_⟩
  have h := h a8 ab
  obtain ⟨am, ae, hr, h⟩ := h
  refine ⟨am, ae, hr, ?_⟩
  obtain ⟨a0, a1, h⟩ := h
  refine ⟨a0, a1, ?_⟩
  obtain ⟨b3, ad, hr, h⟩ := h
  refine ⟨b3, ad, hr, ?_⟩
  exact h

theorem Q02.go (a5 : Option Addr) (a3 a4 : Nat) (i2 : Int) (a1 : Option Addr) (a2 a0 : Nat) {R : RW} {w : World} (h : Q02.N a5 a3 a4 i2 a1 a2 a0 R w) : Calls Try.prog 85 #[.slice a5 a3 a4, .int .i64 i2, .slice a1 a2 a0] w fun e w' => ∃ v, e = .returned v ∧ R v w' := Q02.ok a5 a3 a4 i2 a1 a2 a0 (Q02.up a5 a3 a4 i2 a1 a2 a0 h)
end Go.Proofs.Ytgeakpldocfccaa
set_option linter.unusedSectionVars false
namespace Go.Mx
open Go
section
variable {P : Program} {w w' : World} {b o sz : Nat} {t e : TypeId} {cur cs : List Value}
theorem Q1p : ∀ {cs cur : List Value} {o : Nat} {w : World}, Blk w b t cur → o + cs.length ≤ cur.length → Blk (w.setCells b o cs) b t (setAll cur o cs) ∧ Ext (fun x => x = b) w (w.setCells b o cs)
  | [], cur, o, w, hb, _ => ⟨hb, Ext.refl _ _⟩
  | v :: r, cur, o, w, hb, hl => by
    simp only [List.length_cons] at hl
    have hb2 := hb.set o v
    have X := (Ext.refl (fun x => x = b) w).setCell (a := ⟨b, o, none⟩) (.inl rfl) v
    obtain ⟨h1, h2⟩ := Q1p (cs := r) (o := o + 1) hb2 (by rw [List.length_set]; omega)
    exact ⟨h1, X.trans h2⟩
theorem Q1N {dT sT ty elem : TypeId} {dLen dCap sLen sCap n : Nat} {a : Addr} {i : TypeInfo} (hu : P.underlying dT = some (.slice elem)) (hi : P.info? elem = some i) (hs : i.size = sz) (hm : Nat.min sLen dLen = n) (hn : cs.length = n * sz)
    (hsrc : ∀ j v, cs[j]? = some v → w.cell? (a.add j) = some v) (hb : Blk w b t cur) (hl : o + cs.length ≤ cur.length) (h1 : ∀ v ∈ cs, v.oneCell' = true) :
    (Builtin.copy_ #[dT, sT] ty #[.slice (some ⟨b, o, none⟩) dLen dCap, .slice (some a) sLen sCap]).run P w = .ok (goInt n) (w.setCells b o cs) := by
  have hfc := run_firstCells_some (P := P) w sz n a sLen sCap cs hn hsrc
  have hcan : ∀ j, j < cs.length → Q0d w ⟨b, o + j, none⟩ := fun j hj => hb.can (v := cur[o + j]'(by omega)) (List.getElem?_eq_getElem (by omega))
  have hst := run_storeCells_cells (P := P) b o cs 0 w (fun j hj => by obtain ⟨⟨u, hu⟩, _⟩ := hcan j hj; simp [hu]) (fun j hj => by simpa using (hcan j hj).2) h1
  simp only [Nat.add_zero] at hst
  simp [Builtin.copy_, run_underlying hu, Builtin.lenOf, sizeOf, typeInfo, hi, hs, hm, hfc, hst]
theorem Q2c {u x y v : List Value} (h : v.length = x.length) : setAll (u ++ x ++ y) u.length v = u ++ v ++ y := by
  have := Q23 (vs := v) (u := u) (cs := x ++ y) (k := 0)
  rw [Nat.add_zero] at this
  rw [List.append_assoc, this, Q3c h, List.append_assoc]
theorem Q3A {t tn ty : TypeId} {i : TypeInfo} {z : Value} {kq kn : IntKind} {bytes : Nat} (ht : P.underlying t = some (.slice e)) (htn : P.underlying tn = some (.int kn)) (hi : P.info? e = some i) (hz : i.zero = some z) (hsize : i.size = sz) (hby : i.bytes = bytes) (hzs : z.cells.size = sz) (hsz : 0 < sz)
    {a : Option Addr} {n c k : Nat} (hr : RowAt w a cs) (hl : cs.length = n * sz) (ha : a ≠ none) (hk : 0 < k) (hg : c < n + k) (hb : (n + k) * bytes ≤ 140737488355328) (h63 : n + k ≤ 1000000000) :
    ∃ c' w', (Builtin.append_ #[t, tn] ty #[.slice a n c, .int kq k]).run P w = .ok (.slice (some ⟨w.heap.size, 0, none⟩) (n + k) c') w' ∧ Ext no w w' ∧ w.heap.size < w'.heap.size ∧ n + k ≤ c' ∧ c' ≤ maxLen ∧ ∃ zs : List Value, Blk w' w.heap.size e (cs ++ zs) ∧ (cs ++ zs).length = c' * sz := by
  obtain ⟨ad, rfl⟩ := Option.ne_none_iff_exists'.1 ha
  subst hsize
  subst hby
  have hold := run_firstCells_some (P := P) w.drew i.size n ad n c cs hl fun j v hj => hr.at_ hj
  have hfit := growslice_fits hg hb
  have hgc := grownCap_ge w (n + k) c e
  have hrun := Lib.run_append_grow_zeros (P := P) w t tn ty e i z kq kn ht htn hi hz (some ad) n c cs (by
    have := run_firstCells_some (P := P) w.drew i.size n ad n c cs hl fun j v hj => hr.at_ hj
    simpa [Builtin.firstCells] using this) k hk hsz hg (by omega) (by
      have : k * i.bytes ≤ (n + k) * i.bytes := Nat.mul_le_mul_right _ (by omega)
      omega) hfit
  refine ⟨_, _, hrun, ?_, ?_, hgc, grownCap_le_maxLen w (n + k) c e (by unfold maxLen; omega), (Builtin.zeroCells z.cells k).toList ++ (Builtin.zeroCells z.cells (grownCap w (n + k) c e - (n + k))).toList, ?_, ?_⟩
  · exact (Ext.refl no w).drew.alloc _
  · simp
  · have : Blk (w.drew.alloc (.cells (cs.toArray ++ Builtin.zeroCells z.cells k ++ Builtin.zeroCells z.cells (grownCap w (n + k) c e - (n + k))) e)) w.heap.size e (cs ++ ((Builtin.zeroCells z.cells k).toList ++ (Builtin.zeroCells z.cells (grownCap w (n + k) c e - (n + k))).toList)) := by
      unfold Blk
      have := heap_alloc_new w.drew (.cells (cs.toArray ++ Builtin.zeroCells z.cells k ++ Builtin.zeroCells z.cells (grownCap w (n + k) c e - (n + k))) e)
      refine this.trans ?_
      congr 2
      apply Array.ext'
      simp [List.append_assoc]
    exact this
  · simp only [List.length_append, Array.length_toList, size_zeroCells, hzs, hl]
    rw [← Nat.add_mul, ← Nat.add_mul]
    congr 1
    omega
theorem LRow.set {e : TypeId} {N n c j : Nat} {w : World} {o : Own} {a : Option Addr} {cs : List Value} (h : LRow e sz N w o a n c cs) (ok : Tags w o) (hj : j < cs.length) (v : Value) :
    ∃ ad, a = some ad ∧ Q0d w (ad.add j) ∧ (∀ k, o ad.block = some k → N ≤ k) ∧ (o ad.block).isSome = true ∧ ∀ w', w' = w.setCell (ad.add j) v → Step (fun i => N ≤ i) w o w' (grow w o) ∧ LRow e sz N w' (grow w o) a n c (cs.set j v) ∧ Ext (fun b => b = ad.block) w w' := by
  rcases h with ⟨rfl, rfl, rfl, rfl⟩ | ⟨k, h1, h2, h⟩
  · simp at hj
  have hl := h.own.1
  rcases h.own.2 with ⟨hv, h0⟩ | ⟨g, cap, cur, hv, _, hgb, hnc, hcm, hcs, htk⟩
  · rw [h0] at hl; omega
  cases hv
  have tg := h.tg ⟨g, 0, none⟩ rfl
  have hblk : Blk w g e cur.toList := by unfold Blk; simpa using hgb
  have hcl : cur.toList.length = c * sz := by simpa using hcs
  have hjc : j < cur.toList.length := by
    have := congrArg List.length htk
    rw [List.length_take] at this
    omega
  have hadd : (⟨g, 0, none⟩ : Addr).add j = ⟨g, j, none⟩ := by simp [Addr.add_lit]
  refine ⟨_, rfl, by rw [hadd]; exact hblk.can (v := cur.toList[j]) (List.getElem?_eq_getElem hjc), fun k' hk' => ?_, by rw [tg.1]; rfl, fun w' hw' => ?_⟩
  · have : some k = some k' := tg.1.symm.trans hk'
    cases this; exact h1
  have X : Ext (fun b => b = g) w w' := by subst hw'; rw [hadd]; exact (Ext.refl (fun b => b = g) w).setCell (a := ⟨g, j, none⟩) (.inl rfl) v
  have s : Step (fun i => i = k) w o w' (grow w o) := Step.of_ext X ok fun b hb _ => by subst hb; exact tg.1
  have hb2 : Blk w' g e (cur.toList.set j v) := by subst hw'; rw [hadd]; exact hblk.set j v
  refine ⟨s.mono fun i hi _ => by omega, .inr ⟨k, h1, Nat.lt_of_lt_of_le h2 s.size, ⟨by rw [List.length_set]; exact hl, .inr ⟨g, c, _, rfl, Nat.zero_le _, hb2, hnc, hcm, by simpa using hcs, ?_⟩⟩, fun ad ha => ?_⟩, X⟩
  · show (cur.toList.set j v).take (n * sz) = cs.set j v
    rw [← htk, List.take_set]
  · cases ha; exact ⟨(s.own tg.2).trans tg.1, Nat.lt_of_lt_of_le tg.2 s.size⟩
theorem Q5T {tS tR : TypeId} (ht : P.underlying tS = some (.slice e)) {i : TypeInfo} (hi : P.info? e = some i) {qa qb la ca lb cb oa ob : Nat} {ca' cb' : List Value} (ha : Blk w qa e ca') (hb : Blk w qb e cb') (hne : qa ≠ qb) (hcb : cb' ≠ [])
    {k : FuncId} {fn : Func} (hf : P.funcs[k]? = some fn) (hname : (fn.name == "runtime.NumGoroutine") = false) (hbd : fn.body.isNone = true) (hn : Extern.findNext fn = none) (he : Extern.find fn = some (Extern.SlicesOverlaps.overlaps #[tS, tS] #[tR])) :
    (Q1l k #[.slice (some ⟨qa, oa, none⟩) la ca, .slice (some ⟨qb, ob, none⟩) lb cb]).run P w = .ok (.bool false) w := by
  unfold Blk at ha hb
  have h := Lib.run_overlaps_apart (P := P) w tS tR e ht i.size (fun w => by simp [sizeOf, typeInfo, hi]) ⟨qa, oa, none⟩ ⟨qb, ob, none⟩ la ca lb cb hne e e ca'.length cb'.length (by simp [World.shape?, ha]) (by simp [World.shape?, hb]) (by intro h; exact hcb (List.eq_nil_of_length_eq_zero h))
    (by simp [World.frozen?, ha]) (by simp [World.frozen?, ha])
  unfold Q1l
  simp only [Sem.run_bind, run_callFunc_extern hf hname hbd hn he, h, Result.andThen_ok]
  rfl
end
end Go.Mx
namespace Go.Proofs.Ytgeakpldocfccaa
open Go Go.Mx Go.Proofs
open W (OwnB)
theorem inf110 : (Try.prog.info? 110).map (fun i => (i.zero, i.size, i.bytes)) = some (some (.agg #[.int .i64 0, .int .u64 0, .int .i64 0, .int .i64 0, .int .i64 0]), 5, 40) := by kernel_rfl
theorem inf115 : (Try.prog.info? 115).map (fun i => (i.zero, i.size, i.bytes)) = some (some (.agg #[.int .i64 0, .slice none 0 0]), 2, 32) := by kernel_rfl
structure Mem where
  who : Int
  pub : Int
  fr : Int
  to_ : Int
  lim : Int
deriving DecidableEq
def Mem.C (m : Mem) : List Value := [.int .i64 m.who, .int .u64 m.pub, .int .i64 m.fr, .int .i64 m.to_, .int .i64 m.lim]
theorem Mem.len (m : Mem) : m.C.length = 5 := rfl
theorem Mem.one (m : Mem) : ∀ u ∈ m.C, u.oneCell' = true := fun u hu => by
  simp only [Mem.C, List.mem_cons, List.not_mem_nil, or_false] at hu
  rcases hu with rfl | rfl | rfl | rfl | rfl <;> rfl
theorem Mems.one {l : List Mem} : ∀ u ∈ l.flatMap Mem.C, u.oneCell' = true := fun u hu => by
  obtain ⟨m, _, hm⟩ := List.mem_flatMap.1 hu
  exact m.one u hm
structure Wr where
  who : Int
  a : Option Addr
  c : Nat
  b : List UInt8
def Wr.C (x : Wr) : List Value := [.int .i64 x.who, .slice x.a x.b.length x.c]
def Wr.p (x : Wr) : Int × List UInt8 := (x.who, x.b)
theorem Wr.len (x : Wr) : x.C.length = 2 := rfl
structure Chg where
  kd : Int
  who : Int
  pub : Int
  lim : Int
  ws : List (Int × List UInt8)
  old : List UInt8
def boxesGo (last : Int) : List (Int × List UInt8) → Bool
  | [] => true
  | x :: r => decide (0 ≤ x.1 ∧ x.1 < 8) && decide (last < x.1) && decide (x.2.length = 16) && boxesGo x.1 r
def boxesP (l : List (Int × List UInt8)) : Bool := boxesGo (-1) l && decide (l ≠ [])
def rightM (c : Chg) : Bool :=
  if 0 ≤ c.who ∧ c.who < 8 then
    (if (c.kd == 3) = boxesP c.ws then
      (if c.kd ≠ 3 ∧ ¬ (c.ws = [] ∧ c.old = []) then false
       else if c.kd = 1 then decide (c.pub ≠ 0 ∧ c.lim = 0)
       else if c.kd = 2 then decide (c.who ≠ 0 ∧ c.pub = 0 ∧ 0 ≤ c.lim ∧ c.lim ≤ 200)
       else if c.kd = 3 then decide (c.who = 0 ∧ c.pub = 0 ∧ c.lim = 0 ∧ (c.old.length = 0 ∨ c.old.length = 24))
       else false)
     else false)
  else false
def Sorted (l : List Mem) : Prop := l.Pairwise fun a b => a.who < b.who
def findI (l : List Mem) (x : Int) : Nat := (l.takeWhile fun m => decide (m.who < x)).length
def isAt (l : List Mem) (x : Int) : Bool := match l[findI l x]? with | some m => decide (m.who = x) | none => false
section
variable {w w' w1 : World} {o o' o1 : Own} {a : Option Addr} {c N : Nat} {l : List Wr} {ml : List Mem}
theorem Q2v (l : List Mem) (x : Int) : findI l x ≤ l.length := (List.takeWhile_sublist _).length_le
theorem Q6C {l : List Mem} {x : Int} {i : Nat} {m : Mem} (h : l[i]? = some m) (hi : i < findI l x) : m.who < x := by
  unfold findI at hi
  induction l generalizing i with
  | nil => simp at h
  | cons y r ih =>
    rw [List.takeWhile_cons] at hi
    by_cases hy : y.who < x
    · rw [if_pos (by simpa using hy)] at hi
      cases i with
      | zero => simp at h; subst h; exact hy
      | succ i => exact ih (by simpa using h) (by simpa using hi)
    · rw [if_neg (by simpa using hy)] at hi; simp at hi
theorem Q5d {l : List Mem} {x : Int} {m : Mem} (h : l[findI l x]? = some m) : x ≤ m.who := by
  unfold findI at h
  induction l with
  | nil => simp at h
  | cons y r ih =>
    rw [List.takeWhile_cons] at h
    by_cases hy : y.who < x
    · rw [if_pos (by simpa using hy)] at h; exact ih (by simpa using h)
    · rw [if_neg (by simpa using hy)] at h; simp at h; subst h; omega
theorem Q5o {l : List Mem} {x : Int} {i : Nat} (hi : i ≤ l.length) (h1 : ∀ j m, j < i → l[j]? = some m → m.who < x) (h2 : ∀ m, l[i]? = some m → x ≤ m.who) : findI l x = i := by
  rcases Nat.lt_trichotomy (findI l x) i with h | h | h
  · have hlt : findI l x < l.length := by omega
    have h3 := Q5d (List.getElem?_eq_getElem hlt)
    have h4 := h1 _ _ h (List.getElem?_eq_getElem hlt)
    omega
  · exact h
  · have hlt : i < l.length := by have := Q2v l x; omega
    have h3 := Q6C (List.getElem?_eq_getElem hlt) h
    have h4 := h2 _ (List.getElem?_eq_getElem hlt)
    omega
theorem Sorted.get {l : List Mem} (h : Sorted l) {i j : Nat} {x y : Mem} (hi : l[i]? = some x) (hj : l[j]? = some y) (hij : i < j) : x.who < y.who := by
  obtain ⟨h1, rfl⟩ := List.getElem?_eq_some_iff.1 hi
  obtain ⟨h2, rfl⟩ := List.getElem?_eq_some_iff.1 hj
  exact List.pairwise_iff_getElem.1 h i j h1 h2 hij
theorem Q35 (x : Int) : Q0o.F x = decide (0 ≤ x ∧ x < 8) := by
  unfold Q0o.F
  by_cases h : x ≥ 0
  · rw [if_pos h]
    by_cases h2 : x < 8 <;> simp [h2] <;> omega
  · rw [if_neg h]
    rw [eq_comm, decide_eq_false_iff_not]; omega
theorem Q2R {l : List (Int × List UInt8)} {t : Nat} (ht : t < l.length) (last : Int) : boxesGo last (l.drop t) = (decide (0 ≤ l[t].1 ∧ l[t].1 < 8) && decide (last < l[t].1) && decide (l[t].2.length = 16) && boxesGo l[t].1 (l.drop (t + 1))) := by
  rw [List.drop_eq_getElem_cons ht]; rfl
theorem Q5x (hr : RowAt w a (l.flatMap Wr.C)) (hl : l.length < 1000000) :
    Calls Try.prog 80 #[.slice a l.length c] w (Ret (.bool (boxesP (l.map Wr.p))) fun w' => Ext no w w') := by
  refine Q0Y.run _ _ _ ?_
  unfold Q0Y.N
  refine ⟨fun m vs w1 => ∃ (t : Nat) (last : Int), vs = [.int .i64 last, .int .i64 t] ∧ m + t = l.length ∧ Ext no w w1 ∧ boxesGo last ((l.map Wr.p).drop t) = boxesGo (-1) (l.map Wr.p), l.length, ⟨0, -1, rfl, rfl, Ext.refl _ _, rfl⟩, ?_⟩
  rintro m w1 la i ⟨t, last, hi, hm, X1, hB⟩
  simp only [List.cons.injEq, Value.int.injEq, true_and, and_true] at hi
  obtain ⟨rfl, rfl⟩ := hi
  refine ⟨fun ht => ?_, fun ht => ?_⟩
  · have htl : t < l.length := by omega
    have hg : l[t]? = some l[t] := List.getElem?_eq_getElem htl
    rw [Q2R (by simpa using htl)] at hB
    have e1 : (l.map Wr.p)[t]'(by simpa using htl) = l[t].p := by simp
    rw [e1] at hB
    generalize l[t] = x at *
    obtain ⟨ad, rfl⟩ := hr.faddr Wr.len (by decide) htl
    refine ⟨ad, rfl, by omega, by omega, x.who, x.a, x.b.length, x.c, by rw [Int.toNat_natCast]; exact (hr.no X1).floads Wr.len hg, fun h1 w2 X2 => ?_, fun h1 => ⟨fun h2 w2 X2 => ?_, fun h2 => ⟨fun h3 w2 X2 => ?_, fun h3 => ⟨by omega, by omega, fun w2 X2 => ?_⟩⟩⟩⟩
    · rw [Q35] at h1
      refine ⟨?_, X1.trans X2⟩
      unfold boxesP; rw [← hB, show decide (0 ≤ x.p.1 ∧ x.p.1 < 8) = false from h1]; rfl
    · refine ⟨?_, X1.trans X2⟩
      unfold boxesP; rw [← hB, show decide (la < x.p.1) = false from decide_eq_false (by show ¬ la < x.who; omega)]; simp
    · refine ⟨?_, X1.trans X2⟩
      unfold boxesP; rw [← hB, show decide (x.p.2.length = 16) = false from decide_eq_false (by show ¬ x.b.length = 16; omega)]; simp
    · rw [Q35] at h1
      refine ⟨m - 1, by omega, t + 1, x.who, rfl, by omega, X1.trans X2, ?_⟩
      rw [← hB, show decide (0 ≤ x.p.1 ∧ x.p.1 < 8) = true from h1, show decide (la < x.p.1) = true from decide_eq_true (show la < x.who by omega), show decide (x.p.2.length = 16) = true from decide_eq_true (show x.b.length = 16 by omega)]
      rfl
  · obtain rfl : t = l.length := by omega
    rw [List.drop_of_length_le (by simp)] at hB
    refine ⟨?_, X1⟩
    unfold boxesP; rw [← hB]
    cases l <;> simp [boxesGo]
def chgV (c : Chg) (wa : Option Addr) (wc : Nat) (oa : Option Addr) (oc : Nat) : Value := .agg #[.int .i64 c.kd, .int .i64 c.who, .int .u64 c.pub, .int .i64 c.lim, .slice wa c.ws.length wc, .slice oa c.old.length oc]
theorem Q3U {cg : Chg} {wa oa : Option Addr} {wc oc : Nat} (hr : RowAt w wa (l.flatMap Wr.C)) (hl : l.map Wr.p = cg.ws) (hn : l.length < 1000000) (ho : cg.old.length < 1000000) :
    Calls Try.prog 50 #[chgV cg wa wc oa oc] w (Ret (.bool (rightM cg)) fun w' => Ext no w w') := by
  refine Q10.run cg.kd cg.who cg.pub cg.lim wa cg.ws.length wc oa cg.old.length oc ?_
  unfold Q10.N
  rw [Q35]
  have hlen : l.length = cg.ws.length := by rw [← hl]; simp
  refine ⟨fun h w9 X => ⟨?_, X⟩, fun h w9 p12 X9 hp => ?_⟩
  · unfold rightM; rw [if_neg (of_decide_eq_false h)]
  have hw := of_decide_eq_true h
  rw [← hlen]
  refine (Q5x (hr.no X9) hn).mono fun x w15 ⟨he, X15⟩ => ⟨_, he, X15.kept, fun hne => ?_, fun heq => ?_⟩
  · rw [hl] at hne
    exact ⟨by unfold rightM; rw [if_pos hw, if_neg hne], X9.trans X15⟩
  rw [hl] at heq
  have X := X9.trans X15
  have hM : rightM cg = (if cg.kd ≠ 3 ∧ ¬ (cg.ws = [] ∧ cg.old = []) then false
       else if cg.kd = 1 then decide (cg.pub ≠ 0 ∧ cg.lim = 0)
       else if cg.kd = 2 then decide (cg.who ≠ 0 ∧ cg.pub = 0 ∧ 0 ≤ cg.lim ∧ cg.lim ≤ 200)
       else if cg.kd = 3 then decide (cg.who = 0 ∧ cg.pub = 0 ∧ cg.lim = 0 ∧ (cg.old.length = 0 ∨ cg.old.length = 24))
       else false) := by unfold rightM; rw [if_pos hw, if_pos heq]
  have hz : cg.ws = [] ↔ cg.ws.length = 0 := List.length_eq_zero_iff.symm
  have hz2 : cg.old = [] ↔ cg.old.length = 0 := List.length_eq_zero_iff.symm
  refine ⟨fun h3 => ⟨by omega, by omega, fun hpos => ⟨?_, X⟩, fun hpos => ?_⟩, fun h3 => ?_⟩
  · rw [hM, if_pos ⟨h3, fun hh => by rw [hz, hz2] at hh; omega⟩]
  · rw [if_neg (fun hh => hh.2 ⟨hz.2 (by omega), hz2.2 (by omega)⟩)] at hM
    rw [hM]
    refine ⟨fun h1 => ⟨fun hp => ⟨?_, X⟩, fun hp => ⟨?_, X⟩⟩, fun h1 => ⟨fun h2 => ⟨fun hw0 => ⟨fun hp => ⟨fun hl0 => ⟨?_, X⟩, fun hl0 => ⟨?_, X⟩⟩, fun hp => ⟨?_, X⟩⟩, fun hw0 => ⟨?_, X⟩⟩, fun h2 => ⟨fun h => absurd h h3, fun _ => ⟨?_, X⟩⟩⟩⟩
    · rw [if_pos h1]; simp [hp, Bool.beq_eq_decide_eq]
    · rw [if_pos h1]; simp [hp]
    · rw [if_neg h1, if_pos h2]; congr 1; simp [hw0, hp]; omega
    · rw [if_neg h1, if_pos h2]; congr 1; rw [eq_comm, decide_eq_false_iff_not]; omega
    · rw [if_neg h1, if_pos h2]; congr 1; rw [eq_comm, decide_eq_false_iff_not]; exact fun hh => hp hh.2.1
    · rw [if_neg h1, if_pos h2]; congr 1; rw [eq_comm, decide_eq_false_iff_not]; exact fun hh => hh.1 hw0
    · rw [if_neg h1, if_neg h2, if_neg h3]
  · rw [if_neg (fun hh => hh.1 h3), if_neg (by omega), if_neg (by omega), if_pos h3] at hM
    rw [hM]
    refine ⟨fun h => by omega, fun _ => ⟨fun h => by omega, fun _ => ⟨fun _ => ⟨fun hw0 => ⟨fun hp => ⟨fun hl0 => ⟨fun ho0 => ⟨?_, X⟩, fun ho0 => ⟨?_, X⟩⟩, fun hl0 => ⟨?_, X⟩⟩, fun hp => ⟨?_, X⟩⟩, fun hw0 => ⟨?_, X⟩⟩, fun h => absurd h3 h⟩⟩⟩
    · congr 1; rw [eq_comm, decide_eq_true_eq]; exact ⟨hw0, hp, hl0, .inl (by omega)⟩
    · congr 1
      by_cases h24 : cg.old.length = 24
      · rw [h24]; simp [hw0, hp, hl0]
      · have : ((cg.old.length : Int) == 24) = false := by simpa using (show (cg.old.length : Int) ≠ 24 by omega)
        rw [this, eq_comm, decide_eq_false_iff_not]; omega
    · congr 1; rw [eq_comm, decide_eq_false_iff_not]; omega
    · congr 1; rw [eq_comm, decide_eq_false_iff_not]; omega
    · congr 1; rw [eq_comm, decide_eq_false_iff_not]; omega
theorem cmp_F (x y : Int) : Q0n.F x y = if x < y then -1 else if x > y then 1 else 0 := by
  unfold Q0n.F Q0u.F; simp
theorem Q3F (m : Mem) (x : Int) : Calls Try.prog 93 #[.agg #[.int .i64 m.who, .int .u64 m.pub, .int .i64 m.fr, .int .i64 m.to_, .int .i64 m.lim], .int .i64 x] w (Ret (.int .i64 (Q0n.F m.who x)) fun w' => Ext no w w') := by
  refine Q0H.run m.who m.pub m.fr m.to_ m.lim x ?_
  unfold Q0H.N
  exact fun w' X => ⟨rfl, X⟩
theorem BS_spec (hr : RowAt w a (ml.flatMap Mem.C)) (hs : Sorted ml) (hl : ml.length < 1000000) (x : Int) :
    Calls Try.prog 92 #[.slice a ml.length c, .int .i64 x, .func (.func 93) #[] #[]] w (Ret (.tuple #[.int .i64 (findI ml x : Int), .bool (isAt ml x)]) fun w' => Ext no w w') := by
  refine Q03.run a ml.length c x _ _ _ ?_
  unfold Q03.N
  refine ⟨fun m vs w1 => ∃ (i j : Nat), vs = [.int .i64 i, .int .i64 j] ∧ m + i = j ∧ j ≤ ml.length ∧ Ext no w w1 ∧ (∀ k z, k < i → ml[k]? = some z → z.who < x) ∧ (∀ k z, j ≤ k → ml[k]? = some z → x ≤ z.who), ml.length, ⟨0, ml.length, rfl, rfl, Nat.le_refl _, Ext.refl _ _, fun k z hk => by omega, fun k z hk hz => by have := (List.getElem?_eq_some_iff.1 hz).1; omega⟩, ?_⟩
  rintro m w1 i0 j0 ⟨i, j, hi, hm, hj, X1, h1, h2⟩
  simp only [List.cons.injEq, Value.int.injEq, true_and, and_true] at hi
  obtain ⟨rfl, rfl⟩ := hi
  refine ⟨fun hij => ?_, fun hij => ?_⟩
  · rw [wu64 (by omega) (by omega)]
    have hh : (((i : Int) + (j : Int)) / 2).toNat = (i + j) / 2 := by omega
    have hlt : (i + j) / 2 < ml.length := by omega
    have hg : ml[(i + j) / 2]? = some ml[(i + j) / 2] := List.getElem?_eq_getElem hlt
    obtain ⟨ad, rfl⟩ := hr.faddr Mem.len (by decide) hlt
    generalize ml[(i + j) / 2] = y at *
    refine ⟨by omega, by omega, by omega, by omega, ad, rfl, by omega, by omega, y.who, y.pub, y.fr, y.to_, y.lim, by rw [hh]; exact (hr.no X1).floads Mem.len hg, by kernel_rfl, ?_⟩
    refine (Q3F y x).mono fun e w19 ⟨he, X19⟩ => ⟨_, he, fun hneg => ⟨by omega, by omega, j - ((i + j) / 2 + 1), by omega, (i + j) / 2 + 1, j, ?_, by omega, hj, X1.trans X19, fun k z hk hz => ?_, h2⟩, fun hpos => ⟨(i + j) / 2 - i, by omega, i, (i + j) / 2, ?_, by omega, by omega, X1.trans X19, h1, fun k z hk hz => ?_⟩⟩
    · simp
    · rw [cmp_F] at hneg
      have hy : y.who < x := by by_cases h : y.who < x; exact h; rw [if_neg h] at hneg; split at hneg <;> omega
      rcases Nat.lt_or_ge k ((i + j) / 2) with hk2 | hk2
      · have := hs.get hz hg hk2; omega
      · have : k = (i + j) / 2 := by omega
        subst this; rw [hg] at hz; cases hz; exact hy
    · simp
    · rw [cmp_F] at hpos
      have hy : ¬ y.who < x := fun h => by rw [if_pos h] at hpos; omega
      rcases Nat.lt_or_ge ((i + j) / 2) k with hk2 | hk2
      · have := hs.get hg hz hk2; omega
      · have : k = (i + j) / 2 := by omega
        subst this; rw [hg] at hz; cases hz; omega
  · have hij2 : i = j := by omega
    subst hij2
    have hI : findI ml x = i := Q5o hj (fun k z hk hz => h1 k z hk hz) fun z hz => h2 i z (Nat.le_refl _) hz
    refine ⟨fun hlt => ?_, fun hge => ⟨?_, X1⟩⟩
    · have hlt2 : i < ml.length := by omega
      have hg : ml[i]? = some ml[i] := List.getElem?_eq_getElem hlt2
      obtain ⟨ad, rfl⟩ := hr.faddr Mem.len (by decide) hlt2
      have hisat : isAt ml x = decide (ml[i].who = x) := by unfold isAt; rw [hI, hg]
      generalize ml[i] = y at *
      refine ⟨ad, rfl, by omega, by omega, y.who, y.pub, y.fr, y.to_, y.lim, by rw [Int.toNat_natCast]; exact (hr.no X1).floads Mem.len hg, by kernel_rfl, ?_⟩
      refine (Q3F y x).mono fun e w19 ⟨he, X19⟩ => ⟨_, he, ?_, X1.trans X19⟩
      rw [hI, hisat, cmp_F]
      congr 3
      by_cases h : y.who < x
      · rw [if_pos h]; simp; omega
      · rw [if_neg h]
        by_cases h' : y.who > x
        · rw [if_pos h']; simp; omega
        · rw [if_neg h']; simp; omega
    · have hn : ml[i]? = none := List.getElem?_eq_none (by omega)
      have : isAt ml x = false := by unfold isAt; rw [hI, hn]
      rw [hI, this]
theorem Q4q (hr : RowAt w a (ml.flatMap Mem.C)) (hs : Sorted ml) (hl : ml.length < 1000000) (ep x : Int) :
    Calls Try.prog 84 #[.agg #[.slice a ml.length c, .int .i64 ep], .int .i64 x] w (Ret (.tuple #[.int .i64 (findI ml x : Int), .bool (isAt ml x)]) fun w' => Ext no w w') := by
  refine Q0N.run a ml.length c ep x ?_
  unfold Q0N.N
  intro w4 X4
  exact (BS_spec (hr.no X4) hs hl x).mono fun e w9 ⟨he, X9⟩ => ⟨_, _, he, rfl, X4.trans X9⟩
theorem Q36 {ml : List Mem} {x : Int} (h : isAt ml x = true) : ∃ m, ml[findI ml x]? = some m ∧ m.who = x := by
  unfold isAt at h
  cases hg : ml[findI ml x]? with
  | none => rw [hg] at h; cases h
  | some m => rw [hg] at h; exact ⟨m, rfl, of_decide_eq_true h⟩
end
open W (OwnB)
theorem Q48 : ∃ i, Try.prog.info? 110 = some i ∧ i.zero = some (.agg #[.int .i64 0, .int .u64 0, .int .i64 0, .int .i64 0, .int .i64 0]) ∧ i.size = 5 ∧ i.bytes = 40 := info_of inf110
section
variable {w w' w1 : World} {o o' o1 : Own} {a : Option Addr} {c N : Nat} {l : List Wr} {ml : List Mem} {cs : List Value}
abbrev MRow (N : Nat) (w : World) (o : Own) (a : Option Addr) (c : Nat) (ml : List Mem) : Prop := LRow 110 5 N w o a ml.length c (ml.flatMap Mem.C)
theorem MRow.push (h : MRow N w o a c ml) (ok : Tags w o) (hl : ml.length < 1000000) (m : Mem) {q : Nat} (hb : Blk w q 110 m.C) (hq : N ≤ q) (hq' : q < w.heap.size) :
    ∃ a' c' w' o', (Builtin.append_ #[62, 62] 62 #[.slice a ml.length c, .slice (some (blk q)) 1 1]).run Try.prog w = .ok (.slice a' (ml ++ [m]).length c') w' ∧ Step (fun j => N ≤ j) w o w' o' ∧ MRow N w' o' a' c' (ml ++ [m]) := by
  obtain ⟨i, hi, hz, hsz, hby⟩ := Q48
  obtain ⟨a', c', w', o', hrun, s2, hrow, _⟩ := LRow.push (ty := 62) Try.underlying62 hi hz hsz hby rfl (by decide) h ok hq hq' (xa := some (blk q)) (m := 1) (xc := 1) (news := m.C) rfl (RowAt.of_blk hb) m.one (by omega) (by omega)
  exact ⟨a', c', w', o', by rw [List.length_append]; exact hrun, s2, by unfold MRow; rw [List.length_append, List.flatMap_append]; simpa using hrow⟩
theorem Q2j (ok : Tags w o) (hr : RowAt w a (ml.flatMap Mem.C)) (hl : ml.length < 1000000) :
    Calls Try.prog 83 #[.slice a ml.length c] w (fun x w' => ∃ o' a' c', x = .returned (.slice a' ml.length c') ∧ Step no w o w' o' ∧ MRow w.heap.size w' o' a' c' ml) := by
  refine (Q08.go _ _ _ (R := fun v w' => ∃ o' a' c', v = (.slice a' ml.length c') ∧ Step no w o w' o' ∧ MRow w.heap.size w' o' a' c' ml) ?_).mono fun x w' ⟨v, he, o', a', c', hv, hw⟩ => ⟨o', a', c', by rw [he, hv], hw⟩
  unfold Q08.N
  refine ⟨fun hn => ?_, fun hn w3 q X hb hq hq' => ?_⟩
  · subst hn
    have h0 := hr.none_nil
    have : ml = [] := by
      have := Q1n (f := Mem.C) Mem.len ml
      rw [h0] at this
      exact List.eq_nil_of_length_eq_zero (by simp at this; omega)
    subst this
    exact ⟨o, none, 0, rfl, Step.refl _ ok, LRow.nil _ _ _ _ _⟩
  · obtain ⟨i, hi, hz, hsz, hby⟩ := Q48
    have s3 := (Step.of_no X ok).tag hq hq'
    have g3 : Grows 110 5 w3 (tag (grow w o) q q) q (some (blk q)) 0 0 [] := ⟨Q1t hb rfl (Nat.zero_le _), fun ad ha => by cases ha; exact ⟨Q1v, hq'⟩⟩
    have L3 : LRow 110 5 w.heap.size w3 (tag (grow w o) q q) (some (blk q)) 0 0 [] := .inr ⟨q, hq, hq', g3⟩
    obtain ⟨a', c', w6, o6, hrun, s6, hrow, _⟩ := L3.push (ty := 62) Try.underlying62 hi hz hsz hby rfl (by decide) s3.ok hq hq' (xa := a) (m := ml.length) (xc := c) (news := ml.flatMap Mem.C) (Q1n Mem.len ml) (hr.no X) Mems.one (by omega) (by omega)
    rw [Nat.zero_add, List.nil_append] at hrow
    rw [Nat.zero_add] at hrun
    exact ⟨a', _, c', w6, hrun, o6, a', c', rfl, s3.trans' s6 fun j hj => .inr hj, hrow⟩
theorem Q3I (ml : List Mem) (i : Nat) : (ml.flatMap Mem.C).take (i * 5) = (ml.take i).flatMap Mem.C ∧ (ml.flatMap Mem.C).drop (i * 5) = (ml.drop i).flatMap Mem.C := by
  induction ml generalizing i with
  | nil => simp
  | cons x r ih =>
    cases i with
    | zero => simp
    | succ i =>
      have := ih i
      have hx : x.C.length = 5 := rfl
      simp only [List.flatMap_cons, List.take_succ_cons, List.drop_succ_cons]
      rw [show (i + 1) * 5 = x.C.length + i * 5 by rw [hx]; omega, List.take_length_add_append, List.drop_length_add_append, this.1, this.2]
      simp
theorem Q3f (h : MRow N w o a c ml) (ok : Tags w o) (hl : ml.length < 1000) {i : Nat} (hi : i ≤ ml.length) (m : Mem) {q : Nat} (hb : Blk w q 110 m.C) (hq : N ≤ q) (hq' : q < w.heap.size) (hoq : o q = none) :
    Calls Try.prog 85 #[.slice a ml.length c, .int .i64 i, .slice (some (blk q)) 1 1] w (fun x w' => ∃ o' a' c', x = .returned (.slice a' (ml.length + 1) c') ∧ Step (fun j => N ≤ j) w o w' o' ∧ MRow N w' o' a' c' (ml.take i ++ m :: ml.drop i)) := by
  refine (Q02.go _ _ _ _ _ _ _ (R := fun v w' => ∃ o' a' c', v = (.slice a' (ml.length + 1) c') ∧ Step (fun j => N ≤ j) w o w' o' ∧ MRow N w' o' a' c' (ml.take i ++ m :: ml.drop i)) ?_).mono fun x w' ⟨v, he, o', a', c', hv, hw⟩ => ⟨o', a', c', by rw [he, hv], hw⟩
  unfold Q02.N
  obtain ⟨inf, hinf, hz, hsz, hby⟩ := Q48
  have hnew : (ml.take i ++ m :: ml.drop i).length = ml.length + 1 := by simp; omega
  have hcells : (ml.take i ++ m :: ml.drop i).flatMap Mem.C = (ml.flatMap Mem.C).take (i * 5) ++ m.C ++ (ml.flatMap Mem.C).drop (i * 5) := by
    rw [(Q3I ml i).1, (Q3I ml i).2]; simp
  have hfl := Q1n (f := Mem.C) Mem.len ml
  refine ⟨by omega, by omega, fun h0 => by omega, fun _ => ⟨fun he => ?_, fun hne => ⟨by omega, by omega, fun hg => ?_, fun hroom => ?_⟩⟩⟩
  · have hie : i = ml.length := by omega
    obtain ⟨a', c', w', o', hrun, s, hrow⟩ := h.push ok (by omega) m hb hq hq'
    refine ⟨a', _, c', w', hrun, o', a', c', by simp, s, ?_⟩
    subst hie
    rw [List.take_length, List.drop_length]; exact hrow
  all_goals
    have hlt : i < ml.length := by omega
    rcases h with ⟨rfl, h0, _⟩ | ⟨k, hk1, hk2, hG⟩
    · omega
    have hkind := hG.own.2
    rcases hkind with ⟨hv, h0⟩ | ⟨g, cap, cur, hv, _, hgb, hnc, hcm, hcs, htk⟩
    · omega
    cases hv
    have tg := hG.tg ⟨g, 0, none⟩ rfl
    have hqg : q ≠ g := fun e => by subst e; rw [hoq] at tg; cases tg.1
    have hblk : Blk w g 110 cur.toList := by unfold Blk; simpa using hgb
    have hcl : cur.toList.length = c * 5 := by simpa using hcs
    have hmul : ml.length * 5 ≤ c * 5 := Nat.mul_le_mul_right 5 hnc
    have hrow := hG.row
    have hci : ∀ k, k ≤ i + 1 → k ≤ ml.length → c ≠ k ∨ k = c := fun k _ _ => by omega
  · -- a new row
    obtain ⟨c', w10, hrun, X10, hlt10, hc1, hc2, zs, hb10, hzl⟩ := Q3A (P := Try.prog) (w := w) (t := 62) (tn := 3) (ty := 62) (kq := .i64) (sz := 5) Try.underlying62 Try.underlying3 hinf hz hsz hby rfl (by decide)
      (a := some ⟨g, 0, none⟩) (n := i) (c := c) (k := ml.length + 1 - i) (cs := (ml.flatMap Mem.C).take (i * 5)) (hrow.take _) (by rw [List.length_take, hfl]; omega) (by simp) (by omega) (by omega) (by omega) (by omega)
    have e1 : (ml.length : Int) + ((1 : Nat) : Int) - (i : Int) = ((ml.length + 1 - i : Nat) : Int) := by omega
    have e2 : i + (ml.length + 1 - i) = ml.length + 1 := by omega
    rw [e2] at hrun hc1
    rw [e1, Int.toNat_natCast]
    refine ⟨by omega, by omega, by omega, by omega, by omega, by omega, _, _, c', w10, hrun, by omega, by omega, ?_⟩
    generalize hB : w.heap.size = B at *
    -- the new one
    have hcut : cutA (some ⟨B, 0, none⟩) c' i 5 = some ⟨B, i * 5, none⟩ := by unfold cutA; rw [if_neg (by omega)]; simp [Addr.add_lit]
    have hq10 : Blk w10 q 110 m.C := hb.ext X10 id
    have hzs : ∃ z1 z2, zs = z1 ++ z2 ∧ z1.length = 5 ∧ True := ⟨zs.take 5, zs.drop 5, (List.take_append_drop _ _).symm, by
      have hl2 : ((ml.flatMap Mem.C).take (i * 5)).length = i * 5 := by rw [List.length_take, hfl]; omega
      rw [List.length_append, hl2] at hzl
      rw [List.length_take]; omega, trivial⟩
    obtain ⟨z1, z2, rfl, hz1, _⟩ := hzs
    have hl2 : ((ml.flatMap Mem.C).take (i * 5)).length = i * 5 := by rw [List.length_take, hfl]; omega
    have hrun2 := Q1N (P := Try.prog) (w := w10) (dT := 62) (sT := 62) (ty := 3) (sz := 5) (dLen := ml.length + 1 - i) (dCap := c' - i) (sLen := 1) (sCap := 1) (n := 1) (a := blk q) (cs := m.C) (b := B) (o := i * 5) Try.underlying62 hinf hsz (Nat.min_eq_left (by omega)) rfl (fun j v hj => hq10.cella (i := j) hj) hb10 (by
      simp only [List.length_append, hl2, hz1, Mem.len]; omega) m.one
    obtain ⟨hb12, X12⟩ := Q1p (cs := m.C) (o := i * 5) hb10 (by simp only [List.length_append, hl2, hz1, Mem.len]; omega)
    have hset1 : setAll ((ml.flatMap Mem.C).take (i * 5) ++ (z1 ++ z2)) (i * 5) m.C = (ml.flatMap Mem.C).take (i * 5) ++ m.C ++ z2 := by
      rw [← List.append_assoc]
      have := Q2c (u := (ml.flatMap Mem.C).take (i * 5)) (x := z1) (y := z2) (v := m.C) (by rw [hz1]; rfl)
      rwa [hl2] at this
    rw [hset1] at hb12
    rw [hcut]
    refine ⟨1, _, hrun2, by omega, by omega, by omega, by omega, by omega, by omega, fun w13 X13 => ?_⟩
    have hb13 := hb12.ext X13 id
    have e3 : ((i : Int) + ((1 : Nat) : Int)).toNat = i + 1 := by omega
    rw [e3]
    have hcut2 : cutA (some ⟨B, 0, none⟩) c' (i + 1) 5 = some ⟨B, (i + 1) * 5, none⟩ := by
      unfold cutA
      rw [if_neg (by omega)]; simp [Addr.add_lit]
    have hcut3 : cutA (some ⟨g, 0, none⟩) c i 5 = some ⟨g, i * 5, none⟩ := by unfold cutA; rw [if_neg (by omega)]; simp [Addr.add_lit]
    rw [hcut2, hcut3]
    have hgB0 : g < B := tg.2
    have hgB : g ≠ B := by omega
    have X013 : Ext no w w13 := (X10.then X12 fun b hb => .inr (by omega)).trans X13
    have hrow13 := hrow.no X013
    have hsrc : ∀ j v, ((ml.flatMap Mem.C).drop (i * 5))[j]? = some v → w13.cell? ((⟨g, i * 5, none⟩ : Addr).add j) = some v := fun j v hj => by
      rw [List.getElem?_drop] at hj
      have := hrow13.at_ hj
      rw [Addr.add_lit] at this ⊢
      simpa using this
    have hdl : ((ml.flatMap Mem.C).drop (i * 5)).length = (ml.length - i) * 5 := by rw [List.length_drop, hfl]; omega
    have hz2 : (ml.length - i) * 5 ≤ z2.length := by
      rw [List.length_append, List.length_append, hl2, hz1] at hzl; omega
    have hl3 : ((ml.flatMap Mem.C).take (i * 5) ++ m.C).length = (i + 1) * 5 := by rw [List.length_append, hl2, Mem.len]; omega
    have hrun3 := Q1N (P := Try.prog) (w := w13) (dT := 62) (sT := 62) (ty := 3) (sz := 5) (dLen := ml.length + 1 - (i + 1)) (dCap := c' - (i + 1)) (sLen := ml.length - i) (sCap := c - i) (n := ml.length - i) (a := ⟨g, i * 5, none⟩) (cs := (ml.flatMap Mem.C).drop (i * 5)) (b := B) (o := (i + 1) * 5) Try.underlying62 hinf hsz (Nat.min_eq_left (by omega)) hdl hsrc hb13 (by
      rw [List.length_append, hl3, hdl]; omega) (fun v hv => Mems.one v (List.mem_of_mem_drop hv))
    obtain ⟨hb15, X15⟩ := Q1p (cs := (ml.flatMap Mem.C).drop (i * 5)) (o := (i + 1) * 5) hb13 (by rw [List.length_append, hl3, hdl]; omega)
    have hset2 : setAll ((ml.flatMap Mem.C).take (i * 5) ++ m.C ++ z2) ((i + 1) * 5) ((ml.flatMap Mem.C).drop (i * 5)) = (ml.flatMap Mem.C).take (i * 5) ++ m.C ++ (ml.flatMap Mem.C).drop (i * 5) ++ z2.drop ((ml.length - i) * 5) := by
      have := Q2c (u := (ml.flatMap Mem.C).take (i * 5) ++ m.C) (x := z2.take ((ml.length - i) * 5)) (y := z2.drop ((ml.length - i) * 5)) (v := (ml.flatMap Mem.C).drop (i * 5)) (by rw [hdl, List.length_take]; omega)
      rw [hl3, List.append_assoc _ (z2.take _), List.take_append_drop] at this
      exact this
    rw [hset2] at hb15
    refine ⟨_, _, hrun3, ?_⟩
    have X015 : Ext no w (w13.setCells B ((i + 1) * 5) ((ml.flatMap Mem.C).drop (i * 5))) := X013.then X15 fun b hb => .inr (by omega)
    have sz15 := X015.size
    have hB15 := hb15.lt
    have s := (Step.of_no X015 ok).tag (p := B) (j := k) (by omega) (by omega)
    refine ⟨_, some ⟨B, 0, none⟩, c', rfl, s.none, .inr ⟨k, hk1, by omega, ?_, fun ad ha => ?_⟩⟩
    · have hlen : (ml.take i ++ m :: ml.drop i).length * 5 = ((ml.flatMap Mem.C).take (i * 5) ++ m.C ++ (ml.flatMap Mem.C).drop (i * 5)).length := by
        rw [← hcells, Q1n Mem.len]
      rw [hcells]
      refine ⟨by rw [← hlen], .inr ⟨B, c', _, rfl, Nat.zero_le _, hb15, by rw [hnew]; exact hc1, hc2, ?_, ?_⟩⟩
      · have hh := hzl
        simp only [List.length_append, hl2, hz1, Mem.len] at hh
        simp only [List.size_toArray, List.length_append, hl2, Mem.len, hdl, List.length_drop]
        omega
      · rw [hlen]; exact List.take_left
    · cases ha; exact ⟨Q1v, by omega⟩
  · -- in place
    have e0 : ((ml.length : Int) + ((1 : Nat) : Int)).toNat = ml.length + 1 := by omega
    have e3 : ((i : Int) + ((1 : Nat) : Int)).toNat = i + 1 := by omega
    rw [e0, e3]
    have hcut2 : cutA (some ⟨g, 0, none⟩) c (i + 1) 5 = some ⟨g, (i + 1) * 5, none⟩ := by unfold cutA; rw [if_neg (by omega)]; simp [Addr.add_lit]
    have hcut3 : cutA (some ⟨g, 0, none⟩) c i 5 = some ⟨g, i * 5, none⟩ := by unfold cutA; rw [if_neg (by omega)]; simp [Addr.add_lit]
    rw [Int.toNat_natCast, hcut2, hcut3]
    have hapart := Q5T (P := Try.prog) (w := w) (tS := 62) (tR := 4) (la := 1) (ca := 1) (lb := ml.length + 1 - (i + 1)) (cb := c - (i + 1)) (oa := 0) (ob := (i + 1) * 5) Try.underlying62 hinf hb hblk hqg (fun e => by rw [e] at hcl; simp at hcl; omega)
      (k := 95) Try.func95 (by kernel_rfl) (by kernel_rfl) (by kernel_rfl) (by kernel_rfl)
    refine ⟨by omega, by omega, by omega, by omega, by omega, by omega, by omega, by omega, false, w, hapart, fun _ => ⟨by omega, by omega, by omega, by omega, by omega, by omega, fun w19 X19 => ?_⟩, fun h => absurd h (by decide)⟩
    have hb19 := hblk.ext X19 id
    have hq19 := hb.ext X19 id
    have hrow19 := hrow.no X19
    have hcur : cur.toList = ml.flatMap Mem.C ++ cur.toList.drop (ml.length * 5) := by
      rw [← htk, List.take_append_drop]
    generalize hrest : cur.toList.drop (ml.length * 5) = rest at *
    have hrl : rest.length = c * 5 - ml.length * 5 := by rw [← hrest, List.length_drop, hcl]
    have hsplit : ml.flatMap Mem.C = (ml.flatMap Mem.C).take (i * 5) ++ (ml.flatMap Mem.C).drop (i * 5) := (List.take_append_drop _ _).symm
    have hl2 : ((ml.flatMap Mem.C).take (i * 5)).length = i * 5 := by rw [List.length_take, hfl]; omega
    have hdl : ((ml.flatMap Mem.C).drop (i * 5)).length = (ml.length - i) * 5 := by rw [List.length_drop, hfl]; omega
    have hsrc : ∀ j v, ((ml.flatMap Mem.C).drop (i * 5))[j]? = some v → w19.cell? ((⟨g, i * 5, none⟩ : Addr).add j) = some v := fun j v hj => by
      rw [List.getElem?_drop] at hj
      have := hrow19.at_ hj
      rw [Addr.add_lit] at this ⊢
      simpa using this
    have hrun1 := Q1N (P := Try.prog) (w := w19) (dT := 62) (sT := 62) (ty := 3) (sz := 5) (dLen := ml.length + 1 - (i + 1)) (dCap := c - (i + 1)) (sLen := ml.length + 1 - i) (sCap := c - i) (n := ml.length - i) (a := ⟨g, i * 5, none⟩) (cs := (ml.flatMap Mem.C).drop (i * 5)) (b := g) (o := (i + 1) * 5) Try.underlying62 hinf hsz (by show min _ _ = _; omega) hdl hsrc hb19 (by rw [hdl, hcl]; omega) (fun v hv => Mems.one v (List.mem_of_mem_drop hv))
    obtain ⟨hb21, X21⟩ := Q1p (cs := (ml.flatMap Mem.C).drop (i * 5)) (o := (i + 1) * 5) hb19 (by rw [hdl, hcl]; omega)
    refine ⟨_, _, hrun1, by omega, by omega, ?_⟩
    have hq21 := hq19.ext X21 hqg
    -- what stands there now: the first i, one more, then the rest
    have h5 : ∃ y1 y2, (ml.flatMap Mem.C).drop (i * 5) ++ rest = y1 ++ y2 ∧ y1.length = 5 ∧ (ml.length - i) * 5 ≤ y2.length := ⟨((ml.flatMap Mem.C).drop (i * 5) ++ rest).take 5, ((ml.flatMap Mem.C).drop (i * 5) ++ rest).drop 5, (List.take_append_drop _ _).symm, by rw [List.length_take, List.length_append, hdl, hrl]; omega, by rw [List.length_drop, List.length_append, hdl, hrl]; omega⟩
    obtain ⟨y1, y2, hy, hy1, hy2⟩ := h5
    have hcur2 : cur.toList = (ml.flatMap Mem.C).take (i * 5) ++ y1 ++ y2 := by rw [hcur, List.append_assoc, ← hy, ← List.append_assoc, ← hsplit]
    have hl3 : ((ml.flatMap Mem.C).take (i * 5) ++ y1).length = (i + 1) * 5 := by rw [List.length_append, hl2, hy1]; omega
    have hset1 : setAll cur.toList ((i + 1) * 5) ((ml.flatMap Mem.C).drop (i * 5)) = (ml.flatMap Mem.C).take (i * 5) ++ y1 ++ (ml.flatMap Mem.C).drop (i * 5) ++ y2.drop ((ml.length - i) * 5) := by
      have := Q2c (u := (ml.flatMap Mem.C).take (i * 5) ++ y1) (x := y2.take ((ml.length - i) * 5)) (y := y2.drop ((ml.length - i) * 5)) (v := (ml.flatMap Mem.C).drop (i * 5)) (by rw [hdl, List.length_take]; omega)
      rw [hl3, List.append_assoc _ (y2.take _), List.take_append_drop, ← hcur2] at this
      exact this
    rw [hset1] at hb21
    have hrun2 := Q1N (P := Try.prog) (dT := 62) (sT := 62) (ty := 3) (sz := 5) (dLen := ml.length + 1 - i) (dCap := c - i) (sLen := 1) (sCap := 1) (n := 1) (a := blk q) (cs := m.C) (b := g) (o := i * 5) Try.underlying62 hinf hsz (Nat.min_eq_left (by omega)) rfl (fun j v hj => hq21.cella (i := j) hj) hb21 (by
      simp only [List.length_append, hl2, hy1, Mem.len]; omega) m.one
    obtain ⟨hb23, X23⟩ := Q1p (cs := m.C) (o := i * 5) hb21 (by simp only [List.length_append, hl2, hy1, Mem.len]; omega)
    refine ⟨_, _, hrun2, ?_⟩
    have hset2 : setAll ((ml.flatMap Mem.C).take (i * 5) ++ y1 ++ (ml.flatMap Mem.C).drop (i * 5) ++ y2.drop ((ml.length - i) * 5)) (i * 5) m.C = (ml.flatMap Mem.C).take (i * 5) ++ m.C ++ (ml.flatMap Mem.C).drop (i * 5) ++ y2.drop ((ml.length - i) * 5) := by
      have := Q2c (u := (ml.flatMap Mem.C).take (i * 5)) (x := y1) (y := (ml.flatMap Mem.C).drop (i * 5) ++ y2.drop ((ml.length - i) * 5)) (v := m.C) (by rw [hy1]; rfl)
      rw [hl2] at this
      simpa [List.append_assoc] using this
    rw [hset2] at hb23
    have XX : Ext (fun b => b = g) w _ := (X19.none.trans X21).trans X23
    have s : Step (fun j => j = k) w o _ (grow w o) := Step.of_ext XX ok fun b hb _ => by subst hb; exact tg.1
    refine ⟨_, some ⟨g, 0, none⟩, c, rfl, s.mono fun j hj _ => by omega, .inr ⟨k, hk1, Nat.lt_of_lt_of_le hk2 s.size, ?_, fun ad ha => ?_⟩⟩
    · have hlen : (ml.take i ++ m :: ml.drop i).length * 5 = ((ml.flatMap Mem.C).take (i * 5) ++ m.C ++ (ml.flatMap Mem.C).drop (i * 5)).length := by
        rw [← hcells, Q1n Mem.len]
      rw [hcells]
      refine ⟨by rw [← hlen], .inr ⟨g, c, _, rfl, Nat.zero_le _, hb23, by rw [hnew]; omega, hcm, ?_, ?_⟩⟩
      · simp only [List.size_toArray, List.length_append, hl2, Mem.len, hdl, List.length_drop]
        have : y2.length = c * 5 - i * 5 - 5 := by
          have := congrArg List.length hcur2
          rw [List.length_append, hl3, hcl] at this
          omega
        omega
      · rw [hlen]; exact List.take_left
    · cases ha; exact ⟨(s.own tg.2).trans tg.1, Nat.lt_of_lt_of_le tg.2 s.size⟩
end
open W (OwnB)
structure MS where
  ml : List Mem
  ep : Int
def MS.z : MS := ⟨[], 0⟩
def inviteM (s : MS) (c : Chg) : MS × Int := if isAt s.ml c.who = true then (MS.z, 13) else (⟨s.ml.take (findI s.ml c.who) ++ ⟨c.who, c.pub, s.ep + 1, -1, 0⟩ :: s.ml.drop (findI s.ml c.who), s.ep⟩, 0)
def revokeM (s : MS) (c : Chg) : MS × Int :=
  if isAt s.ml c.who = true then
    (match s.ml[findI s.ml c.who]? with
     | some m => if m.to_ = -1 then (⟨s.ml.set (findI s.ml c.who) { m with to_ := if s.ep < 0 then -2 else s.ep, lim := c.lim }, s.ep⟩, 0) else (MS.z, 10)
     | none => (MS.z, 20))
  else (MS.z, 20)
def nowM (l : List Mem) : List Mem := l.filter fun m => decide (m.to_ = -1)
def beginM (s : MS) (c : Chg) : MS × Int :=
  if s.ep + 1 ≥ 20 then (MS.z, 2) else if ((c.old.length : Int) == 0) = decide (s.ep < 0) then (if (nowM s.ml).map Mem.who = c.ws.map Prod.fst then (⟨s.ml, s.ep + 1⟩, 0) else (MS.z, 10)) else (MS.z, 10)
def applyM (s : MS) (c : Chg) : MS × Int := if rightM c = true then (if c.kd = 1 then inviteM s c else if c.kd = 2 then revokeM s c else beginM s c) else (MS.z, 1)
structure MS.ok (s : MS) : Prop where
  sorted : Sorted s.ml
  who : ∀ m ∈ s.ml, 0 ≤ m.who ∧ m.who < 8
  ep0 : -1 ≤ s.ep
  ep1 : s.ep < 20
theorem MS.ok.le {s : MS} (h : s.ok) : s.ml.length ≤ 8 := by
  have key : ∀ (i : Nat) (m : Mem), s.ml[i]? = some m → (i : Int) ≤ m.who := by
    intro i
    induction i with
    | zero => intro m hm; exact (h.who m (List.mem_of_getElem? hm)).1
    | succ i ih =>
      intro m hm
      have hi : i < s.ml.length := by have := (List.getElem?_eq_some_iff.1 hm).1; omega
      have h1 := ih _ (List.getElem?_eq_getElem hi)
      have h2 := h.sorted.get (List.getElem?_eq_getElem hi) hm (by omega)
      omega
  by_cases h0 : s.ml.length = 0
  · omega
  · have hi : s.ml.length - 1 < s.ml.length := by omega
    have h1 := key _ _ (List.getElem?_eq_getElem hi)
    have h2 := (h.who _ (List.getElem_mem hi)).2
    omega
def MsG (w : World) (o : Own) (r : MS × Int) (x : Ending) (w' : World) : Prop := ∃ o' a' c', x = .returned (.tuple #[.agg #[.slice a' r.1.ml.length c', .int .i64 r.1.ep], .int .i64 r.2]) ∧ Step no w o w' o' ∧ Row w' o' a' (r.1.ml.flatMap Mem.C) ∧ r.1.ml.length ≤ c'
def MsR (w : World) (o : Own) (r : MS × Int) (v : Value) (w' : World) : Prop := ∃ o' a' c', v = (.tuple #[.agg #[.slice a' r.1.ml.length c', .int .i64 r.1.ep], .int .i64 r.2]) ∧ Step no w o w' o' ∧ Row w' o' a' (r.1.ml.flatMap Mem.C) ∧ r.1.ml.length ≤ c'
section
variable {w w' w1 : World} {o o' o1 : Own} {a : Option Addr} {c N : Nat} {l : List Wr} {ml : List Mem} {cs : List Value} {s : MS} {cg : Chg} {wa oa : Option Addr} {wc oc : Nat}
theorem MsR.zero (s1 : Step no w o w1 o1) (cd : Int) : MsR w o (MS.z, cd) (.tuple #[.agg #[.slice none 0 0, .int .i64 0], .int .i64 cd]) w1 := ⟨o1, none, 0, rfl, s1, Row.nil _ _ _, Nat.le_refl _⟩
theorem MsR.of {r : MS × Int} {v : Value} (h : MsR w o r v w') {x : Ending} (hx : x = .returned v) : MsG w o r x w' := by
  obtain ⟨o', a', c', hv, h⟩ := h
  exact ⟨o', a', c', by rw [hx, hv], h⟩
theorem noStep {K : Nat → Prop} (h : Step no w o w1 o1) : Step no w o w1 (grow w o) := Step.of_no (h.ext.mono fun b ⟨_, _, h⟩ _ => h) h.ok0
theorem Q50 (hr : Row w o a (s.ml.flatMap Mem.C)) (ok : Tags w o) (hs : s.ok) :
    Calls Try.prog 52 #[.agg #[.slice a s.ml.length c, .int .i64 s.ep], chgV cg wa wc oa oc] w (MsG w o (inviteM s cg)) := by
  have hle := hs.le
  have h0 := hs.ep0
  have h1 := hs.ep1
  refine (Q0F.go a s.ml.length c s.ep cg.kd cg.who cg.pub cg.lim wa cg.ws.length wc oa cg.old.length oc (R := MsR w o (inviteM s cg)) ?_).mono fun x w' ⟨v, he, h⟩ => h.of he
  unfold Q0F.N
  intro w11 p12 p13 p14 X11 hp
  obtain ⟨s11, M11⟩ := Step.priv X11 hp ok
  have g : ∀ p ∈ [p12, p13, p14], w.heap.size ≤ p := fun p h => (hp p h).1
  refine (Q4q (hr.step s11).1 hs.sorted (by omega) s.ep cg.who).mono fun x w18 ⟨he, X18⟩ => ⟨_, _, he, X18.kept, fun hf w21 X21 => ?_, fun hf => ⟨by omega, by omega, fun w22 X22 => ?_, fun w23 q24 X23 hb23 hq hq' => ?_⟩⟩
  all_goals have s18' := Step.of_no X18 s11.ok
  all_goals have s18 := s11.trans s18'
  all_goals have M18 := M11.step s18'
  · have s21 := Step.stores X21 s18'.ok (M18.sub (M := [p14]) (by simp)) (by simp)
    unfold inviteM; rw [if_pos hf]
    exact MsR.zero (s18.trans' s21 fun i hi => .inr (g i (by simp at hi ⊢; omega))) 13
  · have s22' := Step.of_no X22 s18'.ok
    have s22 := s18.trans s22'
    refine (Q2j s22.ok (hr.step s22).1 (by omega)).mono fun x w25 ⟨o25, ca, cc, he, s25, r25⟩ => ⟨_, _, _, he, (M18.step s22').keep s25 fun _ _ => id, fun w26 q27 X26 hb hq hq' => ?_⟩
    have s26 := Step.of_no X26 s25.ok
    have r26 := r25.step s26 fun k h => h.elim
    have l22 := s22.size
    have l25 := s25.size
    refine (Q3f (N := w22.heap.size) r26 s26.ok (by omega) (Q2v s.ml cg.who) ⟨cg.who, cg.pub, s.ep + 1, -1, 0⟩ hb (by omega) hq' (grow_ge hq)).mono fun x w30 ⟨o30, ia, ic, he, s30, r30⟩ => ⟨_, _, _, he, ?_, fun w33 X33 => ?_⟩
    · refine ((((M18.step s22').step s25).step s26).sub (M := [p12, p14]) (by simp)).keep s30 fun p hp' => ?_
      have := (M18.step s22').lt (p := p) (by simp at hp' ⊢; omega)
      omega
    · have s33 := Step.stores X33 s30.ok (((((M18.step s22').step s25).step s26).step s30).sub (M := [p12, p14]) (by simp)) (by simp [or_comm])
      have sA : Step no w o w30 o30 := ((s22.trans s25).trans s26).trans' s30 fun i hi => .inr (by omega)
      have sB : Step no w o w33 _ := sA.trans' s33 fun i hi => .inr (g i (by simp at hi ⊢; omega))
      have r33 := r30.step s33 fun k hk => .inl ((M18.step s22').lt (p := k) (by simp at hk ⊢; omega))
      unfold inviteM; rw [if_neg (by rw [hf]; decide)]
      refine ⟨_, ia, ic, ?_, noStep (K := no) sB, r33.give sB (by omega), r33.le⟩
      have hfi := Q2v s.ml cg.who
      have hnl : (s.ml.take (findI s.ml cg.who) ++ (⟨cg.who, cg.pub, s.ep + 1, -1, 0⟩ : Mem) :: s.ml.drop (findI s.ml cg.who)).length = s.ml.length + 1 := by simp; omega
      show _ = Value.tuple #[.agg #[.slice ia (s.ml.take (findI s.ml cg.who) ++ (⟨cg.who, cg.pub, s.ep + 1, -1, 0⟩ : Mem) :: s.ml.drop (findI s.ml cg.who)).length ic, .int .i64 s.ep], .int .i64 0]
      rw [hnl]
  · have s23' := Step.of_no X23 s18'.ok
    have s23 := s18.trans s23'
    refine (Q2j s23.ok (hr.step s23).1 (by omega)).mono fun x w27 ⟨o27, ca, cc, he, s27, r27⟩ => ⟨_, _, _, he, ((M18.step s23').sub (M := [p12, p14]) (by simp)).keep s27 fun _ _ => id, ?_⟩
    have l18 := s18.size
    have hb27 : Blk w27 q24 110 [.int .i64 cg.who, .int .u64 cg.pub, .int .i64 (s.ep + 1), .int .i64 (-1), .int .i64 0] := by
      have := s27.at hq' (fun k hk => id)
      unfold Blk at hb23 ⊢; rw [this]; exact hb23
    have hqo : o27 q24 = none := by rw [s27.own hq']; exact grow_ge hq
    have hM24 : ∀ p ∈ [p12, p14], p < w18.heap.size := fun p hp' => M18.lt (p := p) (by simp at hp' ⊢; omega)
    have r27' : MRow w18.heap.size w27 o27 ca cc s.ml := by
      rcases r27 with h | ⟨k, h1, h2, h⟩
      · exact .inl h
      · exact .inr ⟨k, by have := X23.size; omega, h2, h⟩
    refine (Q3f (N := w18.heap.size) r27' s27.ok (by omega) (Q2v s.ml cg.who) ⟨cg.who, cg.pub, s.ep + 1, -1, 0⟩ hb27 hq (Nat.lt_of_lt_of_le hq' s27.size) hqo).mono fun x w30 ⟨o30, ia, ic, he, s30, r30⟩ => ⟨_, _, _, he, ?_, fun w33 X33 => ?_⟩
    · refine (((M18.step s23').step s27).sub (M := [p12, p14]) (by simp)).keep s30 fun p hp' => ?_
      have := hM24 p hp'
      omega
    · have s33 := Step.stores X33 s30.ok ((((M18.step s23').step s27).step s30).sub (M := [p12, p14]) (by simp)) (by simp [or_comm])
      have sA : Step no w o w30 o30 := (s23.trans s27).trans' s30 fun i hi => .inr (by omega)
      have sB : Step no w o w33 _ := sA.trans' s33 fun i hi => .inr (g i (by simp at hi ⊢; omega))
      have r33 := r30.step s33 fun k hk => .inl (hM24 k hk)
      unfold inviteM; rw [if_neg (by rw [hf]; decide)]
      refine ⟨_, ia, ic, ?_, noStep (K := no) sB, r33.give sB (by omega), r33.le⟩
      have hfi := Q2v s.ml cg.who
      have hnl : (s.ml.take (findI s.ml cg.who) ++ (⟨cg.who, cg.pub, s.ep + 1, -1, 0⟩ : Mem) :: s.ml.drop (findI s.ml cg.who)).length = s.ml.length + 1 := by simp; omega
      show _ = Value.tuple #[.agg #[.slice ia (s.ml.take (findI s.ml cg.who) ++ (⟨cg.who, cg.pub, s.ep + 1, -1, 0⟩ : Mem) :: s.ml.drop (findI s.ml cg.who)).length ic, .int .i64 s.ep], .int .i64 0]
      rw [hnl]
theorem Q43 (ml : List Mem) {i : Nat} {m : Mem} (h : ml[i]? = some m) (j : Nat) (v : Value) (m' : Mem) (hm : m'.C = m.C.set j v) (hj : j < 5) : (ml.flatMap Mem.C).set (i * 5 + j) v = (ml.set i m').flatMap Mem.C := by
  induction ml generalizing i with
  | nil => simp at h
  | cons x r ih =>
    cases i with
    | zero =>
      simp only [List.getElem?_cons_zero, Option.some.injEq] at h
      subst h
      rw [Nat.zero_mul, Nat.zero_add, List.flatMap_cons, List.set_append_left _ _ (by rw [Mem.len]; exact hj)]
      simp [hm]
    | succ i =>
      simp only [List.getElem?_cons_succ] at h
      rw [List.flatMap_cons, List.set_append_right _ _ (by rw [Mem.len]; omega), show (i + 1) * 5 + j - x.C.length = i * 5 + j by rw [Mem.len]; omega, ih h]
      simp
theorem Q4Q (hr : Row w o a (s.ml.flatMap Mem.C)) (ok : Tags w o) (hs : s.ok) :
    Calls Try.prog 53 #[.agg #[.slice a s.ml.length c, .int .i64 s.ep], chgV cg wa wc oa oc] w (MsG w o (revokeM s cg)) := by
  have hle := hs.le
  have h0 := hs.ep0
  have h1 := hs.ep1
  refine (Q0m.go a s.ml.length c s.ep cg.kd cg.who cg.pub cg.lim wa cg.ws.length wc oa cg.old.length oc (R := MsR w o (revokeM s cg)) ?_).mono fun x w' ⟨v, he, h⟩ => h.of he
  unfold Q0m.N
  intro w11 p12 p13 p14 X11 hp
  obtain ⟨s11, M11⟩ := Step.priv X11 hp ok
  have g : ∀ p ∈ [p12, p13, p14], w.heap.size ≤ p := fun p h => (hp p h).1
  refine (Q4q (hr.step s11).1 hs.sorted (by omega) s.ep cg.who).mono fun x w18 ⟨he, X18⟩ => ⟨_, _, he, X18.kept, fun hf w21 X21 => ?_, fun hf => ?_⟩
  all_goals have s18' := Step.of_no X18 s11.ok
  all_goals have s18 := s11.trans s18'
  all_goals have M18 := M11.step s18'
  · have s21 := Step.stores X21 s18'.ok (M18.sub (M := [p14]) (by simp)) (by simp)
    unfold revokeM; rw [if_neg (by rw [hf]; decide)]
    exact MsR.zero (s18.trans' s21 fun i hi => .inr (g i (by simp at hi ⊢; omega))) 20
  obtain ⟨m, hm, hmw⟩ := Q36 hf
  have hlt := (List.getElem?_eq_some_iff.1 hm).1
  obtain ⟨ad, rfl⟩ := hr.1.faddr Mem.len (by decide) hlt
  have hfi := Int.toNat_natCast (findI s.ml cg.who)
  have hM : revokeM s cg = if m.to_ = -1 then (⟨s.ml.set (findI s.ml cg.who) { m with to_ := if s.ep < 0 then -2 else s.ep, lim := cg.lim }, s.ep⟩, 0) else (MS.z, 10) := by unfold revokeM; rw [if_pos hf, hm]
  rw [hM, hfi]
  generalize findI s.ml cg.who = i at *
  refine ⟨ad, rfl, by omega, by omega, m.to_, (hr.step s18).1.fcell Mem.len hm 3 rfl, fun hto w27 X27 => ?_, fun hto => ?_⟩
  · have s27 := Step.stores X27 s18'.ok (M18.sub (M := [p14]) (by simp)) (by simp)
    rw [if_neg hto]
    exact MsR.zero (s18.trans' s27 fun i hi => .inr (g i (by simp at hi ⊢; omega))) 10
  rw [if_pos hto]
  refine (Q2j s18.ok (hr.step s18).1 (by omega)).mono fun x w30 ⟨o30, ca, cc, he, s30', r30⟩ => ⟨_, _, _, he, M18.keep s30' fun _ _ => id, ?_⟩
  have s30 := s18.trans s30'
  have M30 := M18.step s30'
  obtain ⟨cd, rfl⟩ := r30.row.faddr Mem.len (by decide) hlt
  refine ⟨cd, rfl, by omega, by omega, fun w33 X33 => ?_⟩
  have s33' := Step.stores X33 s30.ok (M30.sub (M := [p12]) (by simp)) (by simp)
  have hMlt : ∀ p ∈ [p12, p13, p14], p < w18.heap.size := fun p hp' => M18.lt hp'
  have s33 : Step no w o w33 _ := s30.trans' s33' fun i hi => .inr (g i (by simp at hi ⊢; omega))
  have M33 := M30.step s33'
  have r33 := r30.step s33' fun k hk => .inl (hMlt k (by simp at hk ⊢; omega))
  have hfl : (s.ml.flatMap Mem.C).length = s.ml.length * 5 := Q1n Mem.len s.ml
  have hadd : ∀ j, ((cd.add (i * 5)).add j).add 0 = cd.add (i * 5 + j) := fun j => by rw [add_add, add_add, Nat.add_zero]
  have hblk : ∀ j, Addr.block ((cd.add (i * 5)).add j) = cd.block := fun j => by rw [Q1a, Q1a]
  -- the first store
  obtain ⟨cd', hcd', can1, hN1, hsm1, hst1⟩ := r33.set s33.ok (j := i * 5 + 3) (by rw [hfl]; omega) (.int .i64 s.ep)
  cases hcd'
  have offP : ∀ {wz : World} {oz : Own}, Mine [p12, p13, p14] wz oz → (∀ k, oz cd.block = some k → w18.heap.size ≤ k) → ∀ p ∈ [p12, p13, p14], p ≠ cd.block := fun Mz hz p hp' e => by
    have h1 := (Mz p hp').2
    rw [e] at h1
    have := hz _ h1
    have := hMlt p hp'
    omega
  refine ⟨by rw [hadd]; exact can1, fun p hp' => by rw [hblk]; exact offP M33 hN1 p hp', Q01 fun w34 e34 => ?_⟩
  rw [hadd] at e34
  obtain ⟨s34', r34, X34⟩ := hst1 w34 e34
  have s34 : Step no w o w34 _ := s33.trans' s34' fun i hi => .inr (by have := s18.size; omega)
  have M34 := M33.step s34'
  have hset1 := Q43 s.ml hm 3 (.int .i64 s.ep) { m with to_ := s.ep } rfl (by decide)
  rw [hset1] at r34
  have hm2 : (s.ml.set i { m with to_ := s.ep })[i]? = some { m with to_ := s.ep } := by rw [List.getElem?_set_self hlt]
  have hfl2 : ((s.ml.set i { m with to_ := s.ep }).flatMap Mem.C).length = s.ml.length * 5 := by rw [Q1n Mem.len, List.length_set]
  obtain ⟨cd', hcd', can2, hN2, hsm2, hst2⟩ := r34.set s34.ok (j := i * 5 + 4) (by rw [hfl2]; omega) (.int .i64 cg.lim)
  cases hcd'
  refine ⟨by rw [hadd]; exact can2, fun p hp' => by rw [hblk]; exact offP M34 hN2 p (by simp at hp' ⊢; omega), Q01 fun w35 e35 => ?_⟩
  rw [hadd] at e35
  obtain ⟨s35', r35, X35⟩ := hst2 w35 e35
  have s35 : Step no w o w35 _ := s34.trans' s35' fun i hi => .inr (by have := s18.size; omega)
  have M35 := M34.step s35'
  have hset2 := Q43 (s.ml.set i { m with to_ := s.ep }) hm2 4 (.int .i64 cg.lim) { m with to_ := s.ep, lim := cg.lim } rfl (by decide)
  rw [hset2, List.set_set] at r35
  have hm3 : (s.ml.set i { m with to_ := s.ep, lim := cg.lim })[i]? = some { m with to_ := s.ep, lim := cg.lim } := by rw [List.getElem?_set_self hlt]
  have hfl3 : ((s.ml.set i { m with to_ := s.ep, lim := cg.lim }).flatMap Mem.C).length = s.ml.length * 5 := by rw [Q1n Mem.len, List.length_set]
  refine ⟨fun hneg => ?_, fun hpos w41 X41 => ?_⟩
  · obtain ⟨cd', hcd', can3, hN3, hsm3, hst3⟩ := r35.set s35.ok (j := i * 5 + 3) (by rw [hfl3]; omega) (.int .i64 (-2))
    cases hcd'
    refine ⟨by rw [hadd]; exact can3, fun p hp' => by rw [hblk]; exact offP M35 hN3 p (by simp at hp' ⊢; omega), Q01 fun w37 e37 => ?_⟩
    rw [hadd] at e37
    obtain ⟨s37', r37, X37⟩ := hst3 w37 e37
    have s37 : Step no w o w37 _ := s35.trans' s37' fun i hi => .inr (by have := s18.size; omega)
    have M37 := M35.step s37'
    have hset3 := Q43 (s.ml.set i { m with to_ := s.ep, lim := cg.lim }) hm3 3 (.int .i64 (-2)) { m with to_ := -2, lim := cg.lim } rfl (by decide)
    rw [hset3, List.set_set] at r37
    intro w39 X39
    have s39' := Step.stores X39 s37.ok (M37.sub (M := [p14]) (by simp)) (by simp)
    have s39 : Step no w o w39 _ := s37.trans' s39' fun i hi => .inr (g i (by simp at hi ⊢; omega))
    have r39 := r37.step s39' fun k hk => .inl (hMlt k (by simp at hk ⊢; omega))
    rw [if_pos hneg]
    refine ⟨_, some cd, cc, by rw [List.length_set], noStep (K := no) s39, r39.give s39 s18.size, by rw [List.length_set]; exact r39.le⟩
  · have s41' := Step.stores X41 s35.ok (M35.sub (M := [p14]) (by simp)) (by simp)
    have s41 : Step no w o w41 _ := s35.trans' s41' fun i hi => .inr (g i (by simp at hi ⊢; omega))
    have r41 := r35.step s41' fun k hk => .inl (hMlt k (by simp at hk ⊢; omega))
    rw [if_neg (by omega)]
    refine ⟨_, some cd, cc, by rw [List.length_set], noStep (K := no) s41, r41.give s41 s18.size, by rw [List.length_set]; exact r41.le⟩
theorem Q5p (hr : Row w o a (ml.flatMap Mem.C)) (ok : Tags w o) (hl : ml.length < 1000) (ep : Int) :
    Calls Try.prog 40 #[.agg #[.slice a ml.length c, .int .i64 ep]] w (fun x w' => ∃ o' a' c', x = .returned (.slice a' (nowM ml).length c') ∧ Step no w o w' o' ∧ Row w' o' a' ((nowM ml).flatMap Mem.C) ∧ (nowM ml).length ≤ c') := by
  refine (Q17.go a ml.length c ep (R := fun v w' => ∃ o' a' c', v = (.slice a' (nowM ml).length c') ∧ Step no w o w' o' ∧ Row w' o' a' ((nowM ml).flatMap Mem.C) ∧ (nowM ml).length ≤ c') ?_).mono fun x w' ⟨v, he, o', a', c', hv, hw⟩ => ⟨o', a', c', by rw [he, hv], hw⟩
  unfold Q17.N
  intro w3 X3
  have s3 := Step.of_no X3 ok
  refine ⟨fun m vs w1 => ∃ (t : Nat) (a1 : Option Addr) (c1 : Nat) (o1 : Own), vs = [.slice a1 (nowM (ml.take t)).length c1, .int .i64 t] ∧ m + t = ml.length ∧ Step no w o w1 o1 ∧ MRow w.heap.size w1 o1 a1 c1 (nowM (ml.take t)), ml.length, ⟨0, none, 0, _, rfl, rfl, s3, LRow.nil _ _ _ _ _⟩, ?_⟩
  rintro m w1 ra rn rc i ⟨t, a1, c1, o1, hi, hm, s1, r1⟩
  simp only [List.cons.injEq, Value.slice.injEq, Value.int.injEq, true_and, and_true] at hi
  obtain ⟨⟨rfl, rfl, rfl⟩, rfl⟩ := hi
  refine ⟨fun ht => ?_, fun ht => ?_⟩
  · have htl : t < ml.length := by omega
    have hg : ml[t]? = some ml[t] := List.getElem?_eq_getElem htl
    have htk : ml.take (t + 1) = ml.take t ++ [ml[t]] := by rw [List.take_add_one, hg]; rfl
    generalize ml[t] = x at *
    obtain ⟨ad, rfl⟩ := hr.1.faddr Mem.len (by decide) htl
    refine ⟨ad, rfl, by omega, by omega, x.who, x.pub, x.fr, x.to_, x.lim, by rw [Int.toNat_natCast]; exact (hr.step s1).1.floads Mem.len hg, fun hto w25 q26 X25 hb hq hq' => ?_, fun hto => ⟨by omega, by omega, fun w23 X23 => ?_⟩⟩
    · have s25 := Step.of_no X25 s1.ok
      have r25 : MRow w.heap.size w25 _ ra rc (nowM (ml.take t)) := LRow.step r1 s25 fun k h => h.elim
      have hln : (nowM (ml.take t)).length < 1000000 := by
        have h1 : (nowM (ml.take t)).length ≤ (ml.take t).length := List.length_filter_le _ _
        rw [List.length_take] at h1; omega
      obtain ⟨a', c', w', o', hrun, s2, hrow⟩ := r25.push s25.ok hln x hb (by have := s1.size; omega) hq'
      have hnw : nowM (ml.take (t + 1)) = nowM (ml.take t) ++ [x] := by rw [htk]; unfold nowM; rw [List.filter_append]; simp [hto]
      exact ⟨a', _, c', w', hrun, by omega, by omega, m - 1, by omega, t + 1, a', c', o', by rw [hnw]; simp, by omega, (s1.trans s25).trans' s2 fun i hi => .inr hi, by rw [hnw]; exact hrow⟩
    · have s23 := Step.of_no X23 s1.ok
      have hnw : nowM (ml.take (t + 1)) = nowM (ml.take t) := by rw [htk]; unfold nowM; rw [List.filter_append]; simp [hto]
      exact ⟨m - 1, by omega, t + 1, ra, rc, _, by rw [hnw]; simp, by omega, s1.trans s23, by rw [hnw]; exact LRow.step r1 s23 fun k h => h.elim⟩
  · have : t = ml.length := by omega
    subst this
    rw [List.take_length] at r1 ⊢
    exact ⟨_, ra, rc, rfl, noStep (K := no) s1, r1.give s1 (Nat.le_refl _), r1.le⟩
theorem Q4U (m : Mem) (x : Wr) : Calls Try.prog 82 #[.agg #[.int .i64 m.who, .int .u64 m.pub, .int .i64 m.fr, .int .i64 m.to_, .int .i64 m.lim], .agg #[.int .i64 x.who, .slice x.a x.b.length x.c]] w (Ret (.bool (m.who == x.who)) fun w' => Ext no w w') := by
  refine Q0D.run m.who m.pub m.fr m.to_ m.lim x.who x.a x.b.length x.c ?_
  unfold Q0D.N
  exact fun w' X => ⟨rfl, X⟩
theorem Q3x (hr : RowAt w a (ml.flatMap Mem.C)) (hw : RowAt w wa (l.flatMap Wr.C)) (hl : ml.length < 1000000) :
    Calls Try.prog 81 #[.slice a ml.length c, .slice wa l.length wc, .func (.func 82) #[] #[]] w (Ret (.bool (decide (ml.map Mem.who = l.map Wr.who))) fun w' => Ext no w w') := by
  refine Q00.run a ml.length c wa l.length wc _ _ _ ?_
  unfold Q00.N
  refine ⟨fun hne => ⟨?_, Ext.refl _ _⟩, fun heq => ?_⟩
  · congr 1
    rw [eq_comm, decide_eq_false_iff_not]
    intro h
    have := congrArg List.length h
    simp at this; omega
  refine ⟨fun q vs w1 => ∃ t : Nat, vs = [.int .i64 t] ∧ q + t = ml.length ∧ Ext no w w1 ∧ (ml.map Mem.who).take t = (l.map Wr.who).take t, ml.length, ⟨0, rfl, rfl, Ext.refl _ _, rfl⟩, ?_⟩
  rintro q w1 i ⟨t, hi, hq, X1, hn⟩
  simp only [List.cons.injEq, Value.int.injEq, true_and, and_true] at hi
  subst hi
  refine ⟨fun ht => ?_, fun ht => ?_⟩
  · have htl : t < ml.length := by omega
    have htm : t < l.length := by omega
    have hg : ml[t]? = some ml[t] := List.getElem?_eq_getElem htl
    have hgm : l[t]? = some l[t] := List.getElem?_eq_getElem htm
    generalize ml[t] = x at *
    generalize l[t] = y at *
    obtain ⟨ad, rfl⟩ := hr.faddr Mem.len (by decide) htl
    obtain ⟨bd, rfl⟩ := hw.faddr Wr.len (by decide) htm
    refine ⟨ad, rfl, by omega, by omega, x.who, x.pub, x.fr, x.to_, x.lim, by rw [Int.toNat_natCast]; exact (hr.no X1).floads Mem.len hg, bd, rfl, by omega, by omega, y.who, y.a, y.b.length, y.c, by rw [Int.toNat_natCast]; exact (hw.no X1).floads Wr.len hgm, fun w29 X29 => ⟨by kernel_rfl, ?_⟩⟩
    refine (Q4U x y).mono fun e w34 ⟨he, X34⟩ => ⟨_, he, fun h => ⟨?_, (X1.trans X29).trans X34⟩, fun h => ⟨by omega, by omega, q - 1, by omega, t + 1, rfl, by omega, (X1.trans X29).trans X34, ?_⟩⟩
    · congr 1
      rw [eq_comm, decide_eq_false_iff_not]
      intro h2
      have h3 := congrArg (fun l => l[t]?) h2
      simp only [List.getElem?_map, hg, hgm, Option.map_some, Option.some.injEq] at h3
      simp [h3] at h
    · rw [List.take_add_one, List.take_add_one, hn, List.getElem?_map, List.getElem?_map, hg, hgm, Option.map_some, Option.map_some, show x.who = y.who by simpa using h]
  · have : t = ml.length := by omega
    subst this
    rw [List.take_of_length_le (by simp), List.take_of_length_le (by simp; omega)] at hn
    exact ⟨by rw [decide_eq_true hn], X1⟩
theorem Q5J (hr : Row w o a (s.ml.flatMap Mem.C)) (ok : Tags w o) (hs : s.ok) (hw : Row w o wa (l.flatMap Wr.C)) (hlw : l.map Wr.p = cg.ws) :
    Calls Try.prog 51 #[.agg #[.slice a s.ml.length c, .int .i64 s.ep], chgV cg wa wc oa oc] w (MsG w o (beginM s cg)) := by
  have hle := hs.le
  have h0 := hs.ep0
  have h1 := hs.ep1
  have hlen : l.length = cg.ws.length := by rw [← hlw]; simp
  refine (Q0A.go a s.ml.length c s.ep cg.kd cg.who cg.pub cg.lim wa cg.ws.length wc oa cg.old.length oc (R := MsR w o (beginM s cg)) ?_).mono fun x w' ⟨v, he, h⟩ => h.of he
  unfold Q0A.N
  refine ⟨by omega, by omega, fun hge w14 X14 => ?_, fun hlt => ⟨fun hne w21 X21 => ?_, fun heq w18 p25 p26 p27 X18 hp => ?_⟩⟩
  · unfold beginM; rw [if_pos hge]; exact MsR.zero (Step.of_no X14 ok) 2
  · unfold beginM; rw [if_neg (by omega), if_neg hne]; exact MsR.zero (Step.of_no X21 ok) 10
  have hM : beginM s cg = if (nowM s.ml).map Mem.who = cg.ws.map Prod.fst then (⟨s.ml, s.ep + 1⟩, 0) else (MS.z, 10) := by unfold beginM; rw [if_neg (by omega), if_pos heq]
  have hws : cg.ws.map Prod.fst = l.map Wr.who := by rw [← hlw, List.map_map]; rfl
  rw [hM, hws, ← hlen]
  obtain ⟨s18, M18⟩ := Step.priv X18 hp ok
  have g : ∀ p ∈ [p25, p26, p27], w.heap.size ≤ p := fun p h => (hp p h).1
  refine (Q5p (hr.step s18) s18.ok (by omega) s.ep).mono fun x w30 ⟨o30, na, nc, he, s30', rn, _⟩ => ⟨_, _, _, he, M18.keep s30' fun _ _ => id, ?_⟩
  have s30 := s18.trans s30'
  have M30 := M18.step s30'
  have hnl : (nowM s.ml).length ≤ s.ml.length := List.length_filter_le _ _
  refine (Q3x rn.1 (hw.step s30).1 (by omega)).mono fun x w33 ⟨he, X33⟩ => ⟨_, he, X33.kept, fun hf w36 X36 => ?_, fun ht => ?_⟩
  all_goals have s33' := Step.of_no X33 s30.ok
  all_goals have s33 := s30.trans s33'
  all_goals have M33 := M30.step s33'
  · rw [if_neg (of_decide_eq_false hf)]
    have s36 := Step.stores X36 s33.ok (M33.sub (M := [p27]) (by simp)) (by simp)
    exact MsR.zero (s33.trans' s36 fun i hi => .inr (g i (by simp at hi ⊢; omega))) 10
  · rw [if_pos (of_decide_eq_true ht)]
    refine (Q2j s33.ok (hr.step s33).1 (by omega)).mono fun x w39 ⟨o39, ca, cc, he, s39', r39⟩ => ⟨_, _, _, he, (M33.sub (M := [p25, p27]) (by simp)).keep s39' fun _ _ => id, by omega, by omega, fun w43 X43 => ?_⟩
    have s39 := s33.trans s39'
    have s43' := Step.stores X43 s39.ok ((M33.step s39').sub (M := [p25, p27]) (by simp)) (by simp [or_comm])
    have s43 : Step no w o w43 _ := s39.trans' s43' fun i hi => .inr (g i (by simp at hi ⊢; omega))
    have r43 := r39.step s43' fun k hk => .inl (M33.lt (p := k) (by simp at hk ⊢; omega))
    exact ⟨_, ca, cc, rfl, noStep (K := no) s43, r43.give s43 s33.size, r43.le⟩
theorem Q5P (hr : Row w o a (s.ml.flatMap Mem.C)) (ok : Tags w o) (hs : s.ok) (hw : Row w o wa (l.flatMap Wr.C)) (hlw : l.map Wr.p = cg.ws) (hwl : l.length < 1000000) (hol : cg.old.length < 1000000) :
    Calls Try.prog 23 #[.agg #[.slice a s.ml.length c, .int .i64 s.ep], chgV cg wa wc oa oc] w (MsG w o (applyM s cg)) := by
  refine (Q0P.go a s.ml.length c s.ep cg.kd cg.who cg.pub cg.lim wa cg.ws.length wc oa cg.old.length oc (R := MsR w o (applyM s cg)) ?_).mono fun x w' ⟨v, he, h⟩ => h.of he
  unfold Q0P.N
  intro w11 p12 p13 p14 X11 hp
  obtain ⟨s11, M11⟩ := Step.priv X11 hp ok
  have g : ∀ p ∈ [p12, p13, p14], w.heap.size ≤ p := fun p h => (hp p h).1
  refine (Q3U (hw.step s11).1 hlw hwl hol).mono fun x w17 ⟨he, X17⟩ => ⟨_, he, X17.kept, fun hf w20 X20 => ?_, fun ht => ?_⟩
  all_goals have s17' := Step.of_no X17 s11.ok
  all_goals have s17 := s11.trans s17'
  all_goals have M17 := M11.step s17'
  · have s20 := Step.stores X20 s17'.ok (M17.sub (M := [p14]) (by simp)) (by simp)
    unfold applyM; rw [if_neg (by rw [hf]; decide)]
    exact MsR.zero (s17.trans' s20 fun i hi => .inr (g i (by simp at hi ⊢; omega))) 1
  have fin : ∀ {r : MS × Int} {x : Ending} {w26 w28 : World}, MsG w17 (grow w11 (tags w o [p12, p13, p14])) r x w26 → ∃ (a' : Option Addr) (n' c' : Nat) (ep' cd' : Int), x = .returned (.tuple #[.agg #[.slice a' n' c', .int .i64 ep'], .int .i64 cd']) ∧ Keep [p14] w17 w26 ∧ ∀ w28, Ext (fun b => b = p14) w26 w28 → MsR w o r (.tuple #[.agg #[.slice a' n' c', .int .i64 ep'], .int .i64 cd']) w28 := by
    rintro r x w26 w28 ⟨o26, a', c', he, s26, r26, hc⟩
    refine ⟨a', _, c', _, _, he, (M17.sub (M := [p14]) (by simp)).keep s26 fun _ _ => id, fun w28 X28 => ?_⟩
    have s28' := Step.stores X28 s26.ok ((M17.step s26).sub (M := [p14]) (by simp)) (by simp)
    have s28 := (s17.trans s26).trans' s28' fun i hi => .inr (g i (by simp at hi ⊢; omega))
    exact ⟨_, a', c', rfl, s28, r26.step s28', hc⟩
  unfold applyM
  rw [if_pos ht]
  refine ⟨fun h1 => ?_, fun h1 => ⟨fun h2 => ?_, fun h2 => ?_⟩⟩
  · rw [if_pos h1]
    exact (Q50 (hr.step s17) s17.ok hs).mono fun x w26 h => fin (w28 := w) h
  · rw [if_neg h1, if_pos h2]
    exact (Q4Q (hr.step s17) s17.ok hs).mono fun x w26 h => fin (w28 := w) h
  · rw [if_neg h1, if_neg h2]
    exact (Q5J (hr.step s17) s17.ok hs (hw.step s17) hlw).mono fun x w26 h => fin (w28 := w) h
end
open W (OwnB)
theorem inf5 : (Try.prog.info? 5).map (fun i => (i.zero, i.size, i.bytes)) = some (some (.int .u8 0), 1, 1) := by kernel_rfl
def Mem.z : Mem := ⟨0, 0, 0, 0, 0⟩
def Mem.V (m : Mem) : Value := .agg #[.int .i64 m.who, .int .u64 m.pub, .int .i64 m.fr, .int .i64 m.to_, .int .i64 m.lim]
def newM (p : Int) : MS := ⟨[⟨0, p, 0, -1, 0⟩], -1⟩
def findM (l : List Mem) (x : Int) : Mem × Bool := if isAt l x = true then ((l[findI l x]?).getD Mem.z, true) else (Mem.z, false)
theorem newM_ok (p : Int) : (newM p).ok := ⟨List.pairwise_singleton _ _, fun m hm => by simp [newM] at hm; subst hm; exact ⟨by show (0 : Int) ≤ 0; decide, by show (0 : Int) < 8; decide⟩, by show (-1 : Int) ≤ -1; decide, by show (-1 : Int) < 20; decide⟩
section
variable {s : MS} {c : Chg} {l : List Mem}
theorem Q5w (h : Sorted l) {m : Mem} (hm : m ∈ l) : findM l m.who = (m, true) := by
  obtain ⟨i, hi⟩ := List.getElem?_of_mem hm
  have hlt := (List.getElem?_eq_some_iff.1 hi).1
  have hI : findI l m.who = i := Q5o (by omega) (fun j y hj hy => h.get hy hi hj) fun y hy => by rw [hi] at hy; cases hy; omega
  have hat : isAt l m.who = true := by unfold isAt; rw [hI, hi]; simp
  unfold findM
  rw [if_pos hat, hI, hi]; rfl
end
section
variable {w w' w1 : World} {o o' o1 : Own} {a : Option Addr} {c N : Nat} {l : List Wr} {ml : List Mem} {cs : List Value} {s : MS} {cg : Chg} {wa oa : Option Addr} {wc oc : Nat}
theorem Q5W (ok : Tags w o) (p : Int) : Calls Try.prog 19 #[.int .u64 p] w (fun x w' => ∃ o' a' c', x = .returned (.agg #[.slice a' (newM p).ml.length c', .int .i64 (newM p).ep]) ∧ Step no w o w' o' ∧ Row w' o' a' ((newM p).ml.flatMap Mem.C) ∧ (newM p).ml.length ≤ c') := by
  refine (Q1f.go p (R := fun v w' => ∃ o' a' c', v = (.agg #[.slice a' (newM p).ml.length c', .int .i64 (newM p).ep]) ∧ Step no w o w' o' ∧ Row w' o' a' ((newM p).ml.flatMap Mem.C) ∧ (newM p).ml.length ≤ c') ?_).mono fun x w' ⟨v, he, o', a', c', hv, hw⟩ => ⟨o', a', c', by rw [he, hv], hw⟩
  unfold Q1f.N
  intro w3 q4 p5 X3 hb hq hq' hp w7 X7
  have s3 := (Step.of_no X3 ok).tag (p := p5) (j := p5) (hp p5 (by simp)).1 (by have := (hp p5 (by simp)).2; omega)
  have h5 := hp p5 (by simp)
  have M3 : Mine [p5] w3 (tag (grow w o) p5 p5) := fun p hp' => by rw [show p = p5 by simpa using hp']; exact ⟨by omega, Q1v⟩
  have s7 := Step.stores X7 s3.ok M3 (by simp)
  have r3 : Row w3 (tag (grow w o) p5 p5) (some (blk q4)) ((newM p).ml.flatMap Mem.C) := ⟨RowAt.of_blk hb, fun _ ad ha => by cases ha; rw [tag_ne (by show q4 ≠ p5; omega)]; exact grow_ge hq⟩
  exact ⟨_, some (blk q4), 1, rfl, s3.trans' s7 fun i hi => .inr (by simp at hi; omega), r3.step s7, Nat.le_refl _⟩
end
/-! ### changes that are handed in -/
section
variable {w w' w1 : World} {o o' o1 : Own} {a : Option Addr} {c N : Nat} {l : List Wr} {ml : List Mem} {cs : List Value} {s : MS} {cg : Chg} {wa oa : Option Addr} {wc oc : Nat}
abbrev WRow (N : Nat) (w : World) (o : Own) (a : Option Addr) (c : Nat) (l : List Wr) : Prop := LRow 115 2 N w o a l.length c (l.flatMap Wr.C)
end
open W (OwnB)
theorem Q6P (w : World) (n : Nat) (hn : n < 1000000) : ∃ w', (Instr.makeSlice 25 (.int .i64 n) (.int .i64 n)).run Try.prog w = .ok (.slice (some (blk w.heap.size)) n n) w' ∧ Ext no w w' ∧ Blk w' w.heap.size 5 (bytesV (List.replicate n 0)) ∧ w.heap.size < w'.heap.size := by
  obtain ⟨i, hi, hz, hs, hb⟩ := info_of inf5
  have hmk := run_makeSlice (P := Try.prog) (w := w) 25 5 i _ Try.underlying25 hi hz .i64 .i64 n n (by omega) (Int.le_refl _) (by rw [hs]; omega) (by rw [hb]; omega) (by omega)
  rw [hs, Int.toNat_natCast] at hmk
  have hcells : (madeCells (Value.int .u8 0).cells (n * 1)) = (bytesV (List.replicate n 0)).toArray := by
    apply Array.ext'
    rw [show (Value.int .u8 0).cells = #[Value.int .u8 0] from rfl, toList_madeCells_one, Nat.mul_one]
    show _ = bytesV _
    rw [bytesV, List.map_replicate]; rfl
  rw [hcells] at hmk
  exact ⟨_, hmk, (Ext.refl _ _).alloc _, Blk.new _ _ _, by simp⟩
end Go.Proofs.Ytgeakpldocfccaa
namespace Go.Proofs.Ytgeakpldocfccaa
open Go Go.Mx Go.Proofs
open W (OwnB)
section
variable {w w' w1 : World} {o o' o1 : Own} {a : Option Addr} {c : Nat} {s : MS} {m : Mem} {cg : Chg}
end
end Go.Proofs.Ytgeakpldocfccaa