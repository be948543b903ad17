/- Members: predicates. -/
import Derived.Test.YtaifegpikhjiiaaZA
import Derived.Lib.Overlaps
import Derived.Lib.AppendZerosOnto
import Derived.Laws.IdiomCopy
import Derived.Laws.Externs
set_option linter.unusedVariables false
set_option linter.unusedSimpArgs false
set_option maxRecDepth 20000
set_option maxHeartbeats 2000000
namespace Go.Proofs.Ytaifegpikhjiiaa
open Go Go.Mx Go.Proofs
open W (OwnB)
def Q0t.M (x1 : Int) (R : RW) (w : World) : Prop :=
 R (.bool (x1 != x1)) w

theorem Q0t.ok (x1 : Int) {R : RW} {w : World} (h : Q0t.M x1 R w) : Calls Try.prog 89 #[.int .i64 x1] w fun e w' => ∃ v, e = .returned v ∧ R v w' :=
  Q0l follows (H := []) (args := [.int .i64 x1]) (cast (by kernel_rfl) h)

def Q0t.N (x1 : Int) (R : RW) (w : World) : Prop :=
 R (.bool (x1 != x1)) w

theorem Q0t.up (x1 : Int) {R : RW} {w : World} (h : Q0t.N x1 R w) : Q0t.M x1 R w := by
  unfold Q0t.M
  unfold Q0t.N at h
  exact h

theorem Q0t.go (x1 : Int) {R : RW} {w : World} (h : Q0t.N x1 R w) : Calls Try.prog 89 #[.int .i64 x1] w fun e w' => ∃ v, e = .returned v ∧ R v w' := Q0t.ok x1 (Q0t.up x1 h)
theorem Q0t.run (x1 : Int) {V : Value} {Q : World → Prop} {w : World} (h : Q0t.N x1 (fun v w' => v = V ∧ Q w') w) : Calls Try.prog 89 #[.int .i64 x1] w (Ret V Q) := (Q0t.go x1 h).mono fun e w' ⟨v, he, hv, hq⟩ => ⟨by rw [he, hv], hq⟩

def Q0t.F (x1 : Int) : Bool :=
  (x1 != x1)
theorem Q0t.pure (x1 : Int) {w : World} : Calls Try.prog 89 #[.int .i64 x1] w (Ret (.bool (Q0t.F x1)) fun w' => Ext no w w') := by
  refine Q0t.run x1 ?_
  unfold Q0t.N
  exact ⟨by unfold Q0t.F; rfl, Ext.refl _ _⟩

def Q0p.M (x1 y2 : Int) (R : RW) (w : World) : Prop :=
 Calls Try.prog 89 #[.int .i64 x1] w fun a3 a5 => ∃ (a1 : Bool), a3 = .returned (.bool a1) ∧
 Calls Try.prog 89 #[.int .i64 y2] a5 fun a4 a2 => ∃ (a0 : Bool), a4 = .returned (.bool a0) ∧
 bif a1 then (
 bif a0 then (
 R (.int .i64 0) a2) else (
 R (.int .i64 (-1)) a2)) else (
 bif a0 then (
 R (.int .i64 1) a2) else (
 bif decide (x1 < y2) then (
 R (.int .i64 (-1)) a2) else (
 bif decide (x1 > y2) then (
 R (.int .i64 1) a2) else (
 R (.int .i64 0) a2))))

theorem Q0p.ok (x1 y2 : Int) {R : RW} {w : World} (h : Q0p.M x1 y2 R w) : Calls Try.prog 75 #[.int .i64 x1, .int .i64 y2] w fun e w' => ∃ v, e = .returned v ∧ R v w' :=
  Q0l follows (H := []) (args := [.int .i64 x1, .int .i64 y2]) (cast (by kernel_rfl) h)

def Q0p.N (x1 y2 : Int) (R : RW) (w : World) : Prop :=
 ((Q0t.F x1) = true →
 ((Q0t.F y2) = true →
 ∀ (a0 : World), Ext no w a0 →
 R (.int .i64 0) a0) ∧
 ((Q0t.F y2) = false →
 ∀ (a0 : World), Ext no w a0 →
 R (.int .i64 (-1)) a0)) ∧
 ((Q0t.F x1) = false →
 ((Q0t.F y2) = true →
 ∀ (a0 : World), Ext no w a0 →
 R (.int .i64 1) a0) ∧
 ((Q0t.F y2) = false →
 (x1 < y2 →
 ∀ (a0 : World), Ext no w a0 →
 R (.int .i64 (-1)) a0) ∧
 (y2 ≤ x1 →
 (x1 > y2 →
 ∀ (a0 : World), Ext no w a0 →
 R (.int .i64 1) a0) ∧
 (x1 ≤ y2 →
 ∀ (a0 : World), Ext no w a0 →
 R (.int .i64 0) a0))))

theorem Q0p.up (x1 y2 : Int) {R : RW} {w : World} (h : Q0p.N x1 y2 R w) : Q0p.M x1 y2 R w := by
  unfold Q0p.M
  unfold Q0p.N at h
  refine (Q0t.pure x1).mono fun ee ww3 ⟨he, hxx⟩ => ⟨(Q0t.F x1), he, ?_⟩
  have a1 := (Ext.refl no w).trans hxx
  refine (Q0t.pure y2).mono fun ee ww4 ⟨he, hxx⟩ => ⟨(Q0t.F y2), he, ?_⟩
  have a0 := a1.trans hxx
  refine bif_of (fun c5 => ?_) (fun c5 => ?_)
  ·have h := h.1 c5
   refine bif_of (fun c6 => ?_) (fun c6 => ?_)
   ·have h := h.1 c6
    have h := h ww4 a0
    exact h
   have h := h.2 c6
   have h := h ww4 a0
   exact h
  have h := h.2 c5
  refine bif_of (fun c7 => ?_) (fun c7 => ?_)
  ·have h := h.1 c7
   have h := h ww4 a0
   exact h
  have h := h.2 c7
  refine bif_of (fun c8 => ?_) (fun c8 => ?_)
  ·have h := h.1 (of_decide_eq_true c8)
   have h := h ww4 a0
   exact h
  have h := h.2 (Int.not_lt.1 (of_decide_eq_false c8))
  refine bif_of (fun c9 => ?_) (fun c9 => ?_)
  ·have h := h.1 (of_decide_eq_true c9)
   have h := h ww4 a0
   exact h
  have h := h.2 (Int.not_lt.1 (of_decide_eq_false c9))
  have h := h ww4 a0
  exact h

theorem Q0p.go (x1 y2 : Int) {R : RW} {w : World} (h : Q0p.N x1 y2 R w) : Calls Try.prog 75 #[.int .i64 x1, .int .i64 y2] w fun e w' => ∃ v, e = .returned v ∧ R v w' := Q0p.ok x1 y2 (Q0p.up x1 y2 h)
theorem Q0p.run (x1 y2 : Int) {V : Value} {Q : World → Prop} {w : World} (h : Q0p.N x1 y2 (fun v w' => v = V ∧ Q w') w) : Calls Try.prog 75 #[.int .i64 x1, .int .i64 y2] w (Ret V Q) := (Q0p.go x1 y2 h).mono fun e w' ⟨v, he, hv, hq⟩ => ⟨by rw [he, hv], hq⟩

def Q0p.F (x1 y2 : Int) : Int :=
  if (Q0t.F x1) = true then
    if (Q0t.F y2) = true then
      0
    else
      (-1)
  else
    if (Q0t.F y2) = true then
      1
    else
      if x1 < y2 then
        (-1)
      else
        if x1 > y2 then
          1
        else
          0
theorem Q0p.pure (x1 y2 : Int) {w : World} : Calls Try.prog 75 #[.int .i64 x1, .int .i64 y2] w (Ret (.int .i64 (Q0p.F x1 y2)) fun w' => Ext no w w') := by
  refine Q0p.run x1 y2 ?_
  unfold Q0p.N
  refine ⟨fun c0 => ?_, fun c0 => ?_⟩
  ·refine ⟨fun c1 => ?_, fun c1 => ?_⟩
   ·intro w' hx; exact ⟨by unfold Q0p.F; rw [if_pos c0, if_pos c1], hx⟩
   ·intro w' hx; exact ⟨by unfold Q0p.F; rw [if_pos c0, if_neg (by rw [c1]; decide)], hx⟩
  ·refine ⟨fun c1 => ?_, fun c1 => ?_⟩
   ·intro w' hx; exact ⟨by unfold Q0p.F; rw [if_neg (by rw [c0]; decide), if_pos c1], hx⟩
   ·refine ⟨fun c2 => ?_, fun c2 => ?_⟩
    ·intro w' hx; exact ⟨by unfold Q0p.F; rw [if_neg (by rw [c0]; decide), if_neg (by rw [c1]; decide), if_pos c2], hx⟩
    ·refine ⟨fun c3 => ?_, fun c3 => ?_⟩
     ·intro w' hx; exact ⟨by unfold Q0p.F; rw [if_neg (by rw [c0]; decide), if_neg (by rw [c1]; decide), if_neg (show ¬ (x1 < y2) from by omega), if_pos c3], hx⟩
     ·intro w' hx; exact ⟨by unfold Q0p.F; rw [if_neg (by rw [c0]; decide), if_neg (by rw [c1]; decide), if_neg (show ¬ (x1 < y2) from by omega), if_neg (show ¬ (x1 > y2) from by omega)], hx⟩

def Q0q.M (a0 : Int) (R : RW) (w : World) : Prop :=
 bif decide (a0 ≥ 0) then (
 R (.bool (decide (a0 < 8))) w) else (
 R (.bool false) w)

theorem Q0q.ok (a0 : Int) {R : RW} {w : World} (h : Q0q.M a0 R w) : Calls Try.prog 63 #[.int .i64 a0] w fun e w' => ∃ v, e = .returned v ∧ R v w' :=
  Q0l follows (H := []) (args := [.int .i64 a0]) (cast (by kernel_rfl) h)

def Q0q.N (a0 : Int) (R : RW) (w : World) : Prop :=
 (a0 ≥ 0 →
 R (.bool (decide (a0 < 8))) w) ∧
 (a0 < 0 →
 R (.bool false) w)

theorem Q0q.up (a0 : Int) {R : RW} {w : World} (h : Q0q.N a0 R w) : Q0q.M a0 R w := by
  unfold Q0q.M
  unfold Q0q.N at h
  refine bif_of (fun c2 => ?_) (fun c2 => ?_)
  ·have h := h.1 (of_decide_eq_true c2)
   exact h
  have h := h.2 (Int.not_le.1 (of_decide_eq_false c2))
  exact h

theorem Q0q.go (a0 : Int) {R : RW} {w : World} (h : Q0q.N a0 R w) : Calls Try.prog 63 #[.int .i64 a0] w fun e w' => ∃ v, e = .returned v ∧ R v w' := Q0q.ok a0 (Q0q.up a0 h)
theorem Q0q.run (a0 : Int) {V : Value} {Q : World → Prop} {w : World} (h : Q0q.N a0 (fun v w' => v = V ∧ Q w') w) : Calls Try.prog 63 #[.int .i64 a0] w (Ret V Q) := (Q0q.go a0 h).mono fun e w' ⟨v, he, hv, hq⟩ => ⟨by rw [he, hv], hq⟩

def Q0q.F (a0 : Int) : Bool :=
  if a0 ≥ 0 then
    (decide (a0 < 8))
  else
    false
theorem Q0q.pure (a0 : Int) {w : World} : Calls Try.prog 63 #[.int .i64 a0] w (Ret (.bool (Q0q.F a0)) fun w' => Ext no w w') := by
  refine Q0q.run a0 ?_
  unfold Q0q.N
  refine ⟨fun c0 => ?_, fun c0 => ?_⟩
  ·exact ⟨by unfold Q0q.F; rw [if_pos c0], Ext.refl _ _⟩
  ·exact ⟨by unfold Q0q.F; rw [if_neg (show ¬ (a0 ≥ 0) from by omega)], Ext.refl _ _⟩

abbrev Q0Y.J1 (j8 j9 : Int) (I0 : Nat → List Value → World → Prop) (aj : Option Addr) (ah m5 : Nat) (R : RW) (a1 : World) : Prop :=
 aj.elim False fun ai =>
 0 ≤ (j9 : Int) ∧ (j9 : Int) < (ah : Int) ∧
 ∃ (a3 : Int) (a7 : Option Addr) (a5 a9 : Nat), cellsAt a1 (ai.add (Int.toNat j9 * 2)) [.int .i64 a3, .slice a7 a5 a9] 0 ∧
 thenW (a1.alloc (.cells #[.int .i64 0, .slice none 0 0] 60)) fun ac =>
 putsK ac (blk a1.heap.size) [.int .i64 a3, .slice a7 a5 a9] 0 fun aa =>
 ∃ (a8 : Int), aa.cell? ((blk a1.heap.size).add 0) = some (.int .i64 a8) ∧
 Calls Try.prog 63 #[.int .i64 a8] aa fun af a2 => ∃ (a0 : Bool), af = .returned (.bool a0) ∧
 bif !a0 then (
 R (.bool false) a2) else (
 ∃ (a4 : Int), a2.cell? ((blk a1.heap.size).add 0) = some (.int .i64 a4) ∧
 bif decide (a4 ≤ j8) then (
 R (.bool false) a2) else (
 ∃ (ae : Option Addr) (ab ad : Nat), a2.cell? ((blk a1.heap.size).add 1) = some (.slice ae ab ad) ∧
 bif (ab : Int) != 16 then (
 R (.bool false) a2) else (
 ∃ (a6 : Int), a2.cell? ((blk a1.heap.size).add 0) = some (.int .i64 a6) ∧
 ∃ ag, ag < m5 ∧ I0 ag [.int .i64 a6, .int .i64 (IntKind.i64.wrap (j9 + 1))] a2)))

def Q0Y.M (a3 : Option Addr) (a2 a4 : Nat) (R : RW) (w : World) : Prop :=
 ∃ (I0 : Nat → List Value → World → Prop) (m4 : Nat), I0 m4 [.int .i64 (-1), .int .i64 0] w ∧ ∀ (m5 : Nat) (a1 : World) (a0 t3 : Int), I0 m5 [.int .i64 a0, .int .i64 t3] a1 →
 bif decide (t3 < (a2 : Int)) then (
 Q0Y.J1 a0 t3 I0 a3 a2 m5 R a1) else (
 R (.bool (decide ((a2 : Int) > 0))) a1)

theorem Q0Y.ok (a2 : Option Addr) (a0 a1 : Nat) {R : RW} {w : World} (h : Q0Y.M a2 a0 a1 R w) : Calls Try.prog 64 #[.slice a2 a0 a1] w fun e w' => ∃ v, e = .returned v ∧ R v w' :=
  Q0l follows (H := [(0, [0, 6, 7], [(3, (.one (.int .i64))), (8, (.one (.int .i64)))])]) (args := [.slice a2 a0 a1]) (cast (by kernel_rfl) h)

def Q0Y.N (aa : Option Addr) (a7 ab : Nat) (R : RW) (w : World) : Prop :=
 ∃ (I0 : Nat → List Value → World → Prop) (m4 : Nat), I0 m4 [.int .i64 (-1), .int .i64 0] w ∧ ∀ (m5 : Nat) (a4 : World) (a2 t3 : Int), I0 m5 [.int .i64 a2, .int .i64 t3] a4 →
 (t3 < (a7 : Int) →
 ∃ a8 : Addr, aa = some a8 ∧
 0 ≤ (t3 : Int) ∧ (t3 : Int) < (a7 : Int) ∧
 ∃ (a0 : Int) (a6 : Option Addr) (a3 a5 : Nat), cellsAt a4 (a8.add (Int.toNat t3 * 2)) [.int .i64 a0, .slice a6 a3 a5] 0 ∧
 ((Q0q.F a0) = false →
 ∀ (a1 : World), Ext no a4 a1 →
 R (.bool false) a1) ∧
 ((Q0q.F a0) = true →
 (a0 ≤ a2 →
 ∀ (a1 : World), Ext no a4 a1 →
 R (.bool false) a1) ∧
 (a2 < a0 →
 ((a3 : Int) ≠ 16 →
 ∀ (a1 : World), Ext no a4 a1 →
 R (.bool false) a1) ∧
 ((a3 : Int) = 16 →
 (-9223372036854775808 : Int) ≤ (t3 + 1) ∧ (t3 + 1) < 9223372036854775808 ∧
 ∀ (a1 : World), Ext no a4 a1 →
 ∃ a9, a9 < m5 ∧ I0 a9 [.int .i64 a0, .int .i64 (t3 + 1)] a1)))) ∧
 ((a7 : Int) ≤ t3 →
 R (.bool (decide ((a7 : Int) > 0))) a4)

theorem Q0Y.up (ai : Option Addr) (ag af : Nat) {R : RW} {w : World} (h : Q0Y.N ai ag af R w) : Q0Y.M ai ag af R w := by
  unfold Q0Y.M
  unfold Q0Y.N at h
  obtain ⟨I0, m4, h0, h⟩ := h
  refine ⟨I0, m4, h0, fun m5 a7 a6 t3 hI => ?_⟩
  have h := h m5 a7 a6 t3 hI
  refine bif_fo (fun c7 => ?_) (fun c7 => ?_)
  ·have h := h.2 (Int.not_lt.1 (of_decide_eq_false c7))
   exact h
  have h := h.1 (of_decide_eq_true c7)
  unfold Q0Y.J1
  obtain ⟨a8, ak, h⟩ := h
  refine Q03 ak ?_
  obtain ⟨aj, aq, h⟩ := h
  refine ⟨aj, aq, ?_⟩
  obtain ⟨a0, a3, a2, a1, ap, h⟩ := h
  refine ⟨a0, a3, a2, a1, ap, ?_⟩
  refine Q01 fun ao ah => ?_
  have a5 := Blk.of_new ah
  have ar := ((Ext.refl no a7)).size
  have ae := (Ext.refl no a7).x_alloc ah
  refine Q0g (k := 0) (j := 0) a5 (Nat.le_of_ble_eq_true rfl) fun ad am av => ?_
  have ab := ae.x_puts am (.inr ar)
  have a5 : Blk ad a7.heap.size 60 [.int .i64 a0, .slice a3 a2 a1] := av
  refine ⟨a0, a5.celli 0 rfl rfl, ?_⟩
  refine (Q0q.pure a0).mono fun ee ww14 ⟨he, hxx⟩ => ⟨(Q0q.F a0), he, ?_⟩
  have a4 := ab.trans hxx
  have a5 := a5.ext hxx id
  refine bif_of (fun ac => ?_) (fun ac => ?_)
  ·have h := h.1 (not_t ac)
   have h := h ww14 a4
   exact h
  have h := h.2 (not_f ac)
  refine ⟨a0, a5.celli 0 rfl rfl, ?_⟩
  refine bif_of (fun a9 => ?_) (fun a9 => ?_)
  ·have h := h.1 (of_decide_eq_true a9)
   have h := h ww14 a4
   exact h
  have h := h.2 (Int.not_le.1 (of_decide_eq_false a9))
  refine ⟨a3, a2, a1, a5.celli 1 rfl rfl, ?_⟩
  refine bif_of (fun aa => ?_) (fun aa => ?_)
  ·have h := h.1 (bne_t aa)
   have h := h ww14 a4
   exact h
  have h := h.2 (bne_f aa)
  refine ⟨a0, a5.celli 0 rfl rfl, ?_⟩
  obtain ⟨an, au, h⟩ := h
  try rw [w64 an au]
  have h := h ww14 a4
  obtain ⟨al, hk, h⟩ := h
  exact ⟨al, hk, h⟩

theorem Q0Y.go (a2 : Option Addr) (a0 a1 : Nat) {R : RW} {w : World} (h : Q0Y.N a2 a0 a1 R w) : Calls Try.prog 64 #[.slice a2 a0 a1] w fun e w' => ∃ v, e = .returned v ∧ R v w' := Q0Y.ok a2 a0 a1 (Q0Y.up a2 a0 a1 h)
theorem Q0Y.run (a2 : Option Addr) (a0 a1 : Nat) {V : Value} {Q : World → Prop} {w : World} (h : Q0Y.N a2 a0 a1 (fun v w' => v = V ∧ Q w') w) : Calls Try.prog 64 #[.slice a2 a0 a1] w (Ret V Q) := (Q0Y.go a2 a0 a1 h).mono fun e w' ⟨v, he, hv, hq⟩ => ⟨by rw [he, hv], hq⟩

def Q10.M (bc bn au b3 : Int) (b0 : Option Addr) (b1 ao : Nat) (bl : Option Addr) (ba bj : Nat) (R : RW) (w : World) : Prop :=
 thenW (w.alloc (.cells #[.int .i64 bc, .int .i64 bn, .int .u64 au, .int .i64 b3, .slice b0 b1 ao, .slice bl ba bj] 52)) fun br =>
 thenW (br.drew) fun bq =>
 ∃ (bm : Int), bq.cell? ((blk w.heap.size).add 1) = some (.int .i64 bm) ∧
 Calls Try.prog 63 #[.int .i64 bm] bq fun bo b2 => ∃ (a1 : Bool), bo = .returned (.bool a1) ∧
 bif !a1 then (
 R (.bool false) b2) else (
 ∃ (ae : Int), b2.cell? ((blk w.heap.size).add 0) = some (.int .i64 ae) ∧
 ∃ (a9 : Option Addr) (aa a5 : Nat), b2.cell? ((blk w.heap.size).add 4) = some (.slice a9 aa a5) ∧
 Calls Try.prog 64 #[.slice a9 aa a5] b2 fun bp a0 => ∃ (ah : Bool), bp = .returned (.bool ah) ∧
 a0.cell? ((blk w.heap.size).add 0) = some (.int .i64 ae) ∧
 bif !((ae == 3) == ah) then (
 R (.bool false) a0) else (
 ∃ (ap : Int), a0.cell? ((blk w.heap.size).add 0) = some (.int .i64 ap) ∧
 bif ap != 3 then (
 ∃ (ax : Option Addr) (ad aw : Nat), a0.cell? ((blk w.heap.size).add 4) = some (.slice ax ad aw) ∧
 ∃ (bg : Option Addr) (az b8 : Nat), a0.cell? ((blk w.heap.size).add 5) = some (.slice bg az b8) ∧
 bif decide ((IntKind.i64.wrap ((ad : Int) + (az : Int))) > 0) then (
 R (.bool false) a0) else (
 ∃ (a3 : Int), a0.cell? ((blk w.heap.size).add 0) = some (.int .i64 a3) ∧
 bif a3 == 1 then (
 ∃ (ac : Int), a0.cell? ((blk w.heap.size).add 2) = some (.int .u64 ac) ∧
 bif ac != 0 then (
 ∃ (aj : Int), a0.cell? ((blk w.heap.size).add 3) = some (.int .i64 aj) ∧
 R (.bool (aj == 0)) a0) else (
 R (.bool false) a0)) else (
 bif a3 == 2 then (
 ∃ (b5 : Int), a0.cell? ((blk w.heap.size).add 1) = some (.int .i64 b5) ∧
 bif b5 != 0 then (
 ∃ (ab : Int), a0.cell? ((blk w.heap.size).add 2) = some (.int .u64 ab) ∧
 bif ab == 0 then (
 ∃ (af : Int), a0.cell? ((blk w.heap.size).add 3) = some (.int .i64 af) ∧
 bif decide (af ≥ 0) then (
 ∃ (ai : Int), a0.cell? ((blk w.heap.size).add 3) = some (.int .i64 ai) ∧
 R (.bool (decide (ai ≤ 200))) a0) else (
 R (.bool false) a0)) else (
 R (.bool false) a0)) else (
 R (.bool false) a0)) else (
 bif a3 == 3 then (
 ∃ (b6 : Int), a0.cell? ((blk w.heap.size).add 1) = some (.int .i64 b6) ∧
 bif b6 == 0 then (
 ∃ (a4 : Int), a0.cell? ((blk w.heap.size).add 2) = some (.int .u64 a4) ∧
 bif a4 == 0 then (
 ∃ (ak : Int), a0.cell? ((blk w.heap.size).add 3) = some (.int .i64 ak) ∧
 bif ak == 0 then (
 ∃ (be : Option Addr) (aq bf : Nat), a0.cell? ((blk w.heap.size).add 5) = some (.slice be aq bf) ∧
 bif (aq : Int) == 0 then (
 R (.bool true) a0) else (
 ∃ (bd : Option Addr) (ar b9 : Nat), a0.cell? ((blk w.heap.size).add 5) = some (.slice bd ar b9) ∧
 R (.bool ((ar : Int) == 24)) a0)) else (
 R (.bool false) a0)) else (
 R (.bool false) a0)) else (
 R (.bool false) a0)) else (
 R (.bool false) a0))))) else (
 ∃ (a2 : Int), a0.cell? ((blk w.heap.size).add 0) = some (.int .i64 a2) ∧
 bif a2 == 1 then (
 ∃ (a6 : Int), a0.cell? ((blk w.heap.size).add 2) = some (.int .u64 a6) ∧
 bif a6 != 0 then (
 ∃ (am : Int), a0.cell? ((blk w.heap.size).add 3) = some (.int .i64 am) ∧
 R (.bool (am == 0)) a0) else (
 R (.bool false) a0)) else (
 bif a2 == 2 then (
 ∃ (b4 : Int), a0.cell? ((blk w.heap.size).add 1) = some (.int .i64 b4) ∧
 bif b4 != 0 then (
 ∃ (a8 : Int), a0.cell? ((blk w.heap.size).add 2) = some (.int .u64 a8) ∧
 bif a8 == 0 then (
 ∃ (ag : Int), a0.cell? ((blk w.heap.size).add 3) = some (.int .i64 ag) ∧
 bif decide (ag ≥ 0) then (
 ∃ (al : Int), a0.cell? ((blk w.heap.size).add 3) = some (.int .i64 al) ∧
 R (.bool (decide (al ≤ 200))) a0) else (
 R (.bool false) a0)) else (
 R (.bool false) a0)) else (
 R (.bool false) a0)) else (
 bif a2 == 3 then (
 ∃ (b7 : Int), a0.cell? ((blk w.heap.size).add 1) = some (.int .i64 b7) ∧
 bif b7 == 0 then (
 ∃ (a7 : Int), a0.cell? ((blk w.heap.size).add 2) = some (.int .u64 a7) ∧
 bif a7 == 0 then (
 ∃ (an : Int), a0.cell? ((blk w.heap.size).add 3) = some (.int .i64 an) ∧
 bif an == 0 then (
 ∃ (bi : Option Addr) (av bh : Nat), a0.cell? ((blk w.heap.size).add 5) = some (.slice bi av bh) ∧
 bif (av : Int) == 0 then (
 R (.bool true) a0) else (
 ∃ (bb : Option Addr) (ay bk : Nat), a0.cell? ((blk w.heap.size).add 5) = some (.slice bb ay bk) ∧
 R (.bool ((ay : Int) == 24)) a0)) else (
 R (.bool false) a0)) else (
 R (.bool false) a0)) else (
 R (.bool false) a0)) else (
 R (.bool false) a0))))))

theorem Q10.ok (a6 a9 a2 a4 : Int) (a0 : Option Addr) (a3 a1 : Nat) (a7 : Option Addr) (a8 a5 : Nat) {R : RW} {w : World} (h : Q10.M a6 a9 a2 a4 a0 a3 a1 a7 a8 a5 R w) : Calls Try.prog 34 #[.agg #[.int .i64 a6, .int .i64 a9, .int .u64 a2, .int .i64 a4, .slice a0 a3 a1, .slice a7 a8 a5]] w fun e w' => ∃ v, e = .returned v ∧ R v w' :=
  Q0l follows (H := []) (args := [.agg #[.int .i64 a6, .int .i64 a9, .int .u64 a2, .int .i64 a4, .slice a0 a3 a1, .slice a7 a8 a5]]) (cast (by kernel_rfl) h)

def Q10.N (a1 a6 a0 a2 : Int) (a8 : Option Addr) (a5 a9 : Nat) (ad : Option Addr) (a4 ab : Nat) (R : RW) (w : World) : Prop :=
 ((Q0q.F a6) = false →
 ∀ (aa : World), Ext no w aa →
 R (.bool false) aa) ∧
 ((Q0q.F a6) = true →
 ∀ (aa : World) (ae : Nat), Ext no w aa → Priv w aa [ae] →
 Calls Try.prog 64 #[.slice a8 a5 a9] aa fun ac a3 => ∃ (a7 : Bool), ac = .returned (.bool a7) ∧
 Keep [ae] aa a3 ∧
 ((a1 == 3) ≠ a7 →
 R (.bool false) a3) ∧
 ((a1 == 3) = a7 →
 (a1 ≠ 3 →
 (-9223372036854775808 : Int) ≤ ((a5 : Int) + (a4 : Int)) ∧ ((a5 : Int) + (a4 : Int)) < 9223372036854775808 ∧
 (((a5 : Int) + (a4 : Int)) > 0 →
 R (.bool false) a3) ∧
 (((a5 : Int) + (a4 : Int)) ≤ 0 →
 (a1 = 1 →
 (a0 ≠ 0 →
 R (.bool (a2 == 0)) a3) ∧
 (a0 = 0 →
 R (.bool false) a3)) ∧
 (a1 ≠ 1 →
 (a1 = 2 →
 (a6 ≠ 0 →
 (a0 = 0 →
 (a2 ≥ 0 →
 R (.bool (decide (a2 ≤ 200))) a3) ∧
 (a2 < 0 →
 R (.bool false) a3)) ∧
 (a0 ≠ 0 →
 R (.bool false) a3)) ∧
 (a6 = 0 →
 R (.bool false) a3)) ∧
 (a1 ≠ 2 →
 (a1 = 3 →
 (a6 = 0 →
 (a0 = 0 →
 (a2 = 0 →
 ((a4 : Int) = 0 →
 R (.bool true) a3) ∧
 ((a4 : Int) ≠ 0 →
 R (.bool ((a4 : Int) == 24)) a3)) ∧
 (a2 ≠ 0 →
 R (.bool false) a3)) ∧
 (a0 ≠ 0 →
 R (.bool false) a3)) ∧
 (a6 ≠ 0 →
 R (.bool false) a3)) ∧
 (a1 ≠ 3 →
 R (.bool false) a3))))) ∧
 (a1 = 3 →
 (a1 = 1 →
 (a0 ≠ 0 →
 R (.bool (a2 == 0)) a3) ∧
 (a0 = 0 →
 R (.bool false) a3)) ∧
 (a1 ≠ 1 →
 (a1 = 2 →
 (a6 ≠ 0 →
 (a0 = 0 →
 (a2 ≥ 0 →
 R (.bool (decide (a2 ≤ 200))) a3) ∧
 (a2 < 0 →
 R (.bool false) a3)) ∧
 (a0 ≠ 0 →
 R (.bool false) a3)) ∧
 (a6 = 0 →
 R (.bool false) a3)) ∧
 (a1 ≠ 2 →
 (a1 = 3 →
 (a6 = 0 →
 (a0 = 0 →
 (a2 = 0 →
 ((a4 : Int) = 0 →
 R (.bool true) a3) ∧
 ((a4 : Int) ≠ 0 →
 R (.bool ((a4 : Int) == 24)) a3)) ∧
 (a2 ≠ 0 →
 R (.bool false) a3)) ∧
 (a0 ≠ 0 →
 R (.bool false) a3)) ∧
 (a6 ≠ 0 →
 R (.bool false) a3)) ∧
 (a1 ≠ 3 →
 R (.bool false) a3))))))

theorem Q10.up (aa a8 a1 a0 : Int) (a7 : Option Addr) (a9 a6 : Nat) (a5 : Option Addr) (a3 a4 : Nat) {R : RW} {w : World} (h : Q10.N aa a8 a1 a0 a7 a9 a6 a5 a3 a4 R w) : Q10.M aa a8 a1 a0 a7 a9 a6 a5 a3 a4 R w := by
  unfold Q10.M
  unfold Q10.N at h
  refine Q01 fun bd e7 => ?_
  have a2 := Blk.of_new e7
  have ba := ((Ext.refl no w)).size
  have b7 := (Ext.refl no w).x_alloc e7
  refine Q01 fun bc e8 => ?_
  have b9 := b7.x_drew e8
  have a2 := a2.x_drew e8
  refine ⟨a8, a2.celli 1 rfl rfl, ?_⟩
  refine (Q0q.pure a8).mono fun ee ww9 ⟨he, hxx⟩ => ⟨(Q0q.F a8), he, ?_⟩
  have b4 := b9.trans hxx
  have a2 := a2.ext hxx id
  refine bif_of (fun an => ?_) (fun an => ?_)
  ·have h := h.1 (not_t an)
   have h := h ww9 b4
   exact h
  have h := h.2 (not_f an)
  refine ⟨aa, a2.celli 0 rfl rfl, ?_⟩
  refine ⟨a7, a9, a6, a2.celli 4 rfl rfl, ?_⟩
  have h := h ww9 (w.heap.size) b4 (Priv.cons ba a2.lt Priv.nil)
  refine h.mono fun b6 b5 h => ?_
  obtain ⟨ab, he, hk, h⟩ := h
  refine ⟨ab, he, ?_⟩
  have a2 := hk.blk a2 (by simp)
  refine ⟨a2.celli 0 rfl rfl, ?_⟩
  refine bif_of (fun ah => ?_) (fun ah => ?_)
  ·have h := h.1 (bbeq_f (not_t ah))
   exact h
  have h := h.2 (bbeq_t (not_f ah))
  refine ⟨aa, a2.celli 0 rfl rfl, ?_⟩
  refine bif_fo (fun ac => ?_) (fun ac => ?_)
  ·have h := h.2 (bne_f ac)
   refine ⟨aa, a2.celli 0 rfl rfl, ?_⟩
   refine bif_of (fun aj => ?_) (fun aj => ?_)
   ·have h := h.1 (beq_t aj)
    refine ⟨a1, a2.celli 2 rfl rfl, ?_⟩
    refine bif_fo (fun ax => ?_) (fun ax => ?_)
    ·have h := h.2 (bne_f ax)
     exact h
    have h := h.1 (bne_t ax)
    refine ⟨a0, a2.celli 3 rfl rfl, ?_⟩
    exact h
   have h := h.2 (beq_f aj)
   refine bif_of (fun am => ?_) (fun am => ?_)
   ·have h := h.1 (beq_t am)
    refine ⟨a8, a2.celli 1 rfl rfl, ?_⟩
    refine bif_fo (fun ae => ?_) (fun ae => ?_)
    ·have h := h.2 (bne_f ae)
     exact h
    have h := h.1 (bne_t ae)
    refine ⟨a1, a2.celli 2 rfl rfl, ?_⟩
    refine bif_fo (fun ap => ?_) (fun ap => ?_)
    ·have h := h.2 (beq_f ap)
     exact h
    have h := h.1 (beq_t ap)
    refine ⟨a0, a2.celli 3 rfl rfl, ?_⟩
    refine bif_fo (fun ak => ?_) (fun ak => ?_)
    ·have h := h.2 (Int.not_le.1 (of_decide_eq_false ak))
     exact h
    have h := h.1 (of_decide_eq_true ak)
    refine ⟨a0, a2.celli 3 rfl rfl, ?_⟩
    exact h
   have h := h.2 (beq_f am)
   refine bif_fo (fun b0 => ?_) (fun b0 => ?_)
   ·have h := h.2 (beq_f b0)
    exact h
   have h := h.1 (beq_t b0)
   refine ⟨a8, a2.celli 1 rfl rfl, ?_⟩
   refine bif_fo (fun ay => ?_) (fun ay => ?_)
   ·have h := h.2 (beq_f ay)
    exact h
   have h := h.1 (beq_t ay)
   refine ⟨a1, a2.celli 2 rfl rfl, ?_⟩
   refine bif_fo (fun av => ?_) (fun av => ?_)
   ·have h := h.2 (beq_f av)
    exact h
   have h := h.1 (beq_t av)
   refine ⟨a0, a2.celli 3 rfl rfl, ?_⟩
   refine bif_fo (fun aw => ?_) (fun aw => ?_)
   ·have h := h.2 (beq_f aw)
    exact h
   have h := h.1 (beq_t aw)
   refine ⟨a5, a3, a4, a2.celli 5 rfl rfl, ?_⟩
   refine bif_of (fun ao => ?_) (fun ao => ?_)
   ·have h := h.1 (beq_t ao)
    exact h
   have h := h.2 (beq_f ao)
   refine ⟨a5, a3, a4, a2.celli 5 rfl rfl, ?_⟩
   exact h
  have h := h.1 (bne_t ac)
  refine ⟨a7, a9, a6, a2.celli 4 rfl rfl, ?_⟩
  refine ⟨a5, a3, a4, a2.celli 5 rfl rfl, ?_⟩
  obtain ⟨b8, bb, h⟩ := h
  try rw [w64 b8 bb]
  refine bif_of (fun ai => ?_) (fun ai => ?_)
  ·have h := h.1 (of_decide_eq_true ai)
   exact h
  have h := h.2 (Int.not_lt.1 (of_decide_eq_false ai))
  refine ⟨aa, a2.celli 0 rfl rfl, ?_⟩
  refine bif_of (fun af => ?_) (fun af => ?_)
  ·have h := h.1 (beq_t af)
   refine ⟨a1, a2.celli 2 rfl rfl, ?_⟩
   refine bif_fo (fun az => ?_) (fun az => ?_)
   ·have h := h.2 (bne_f az)
    exact h
   have h := h.1 (bne_t az)
   refine ⟨a0, a2.celli 3 rfl rfl, ?_⟩
   exact h
  have h := h.2 (beq_f af)
  refine bif_of (fun ag => ?_) (fun ag => ?_)
  ·have h := h.1 (beq_t ag)
   refine ⟨a8, a2.celli 1 rfl rfl, ?_⟩
   refine bif_fo (fun b1 => ?_) (fun b1 => ?_)
   ·have h := h.2 (bne_f b1)
    exact h
   have h := h.1 (bne_t b1)
   refine ⟨a1, a2.celli 2 rfl rfl, ?_⟩
   refine bif_fo (fun ad => ?_) (fun ad => ?_)
   ·have h := h.2 (beq_f ad)
    exact h
   have h := h.1 (beq_t ad)
   refine ⟨a0, a2.celli 3 rfl rfl, ?_⟩
   refine bif_fo (fun aq => ?_) (fun aq => ?_)
   ·have h := h.2 (Int.not_le.1 (of_decide_eq_false aq))
    exact h
   have h := h.1 (of_decide_eq_true aq)
   refine ⟨a0, a2.celli 3 rfl rfl, ?_⟩
   exact h
  have h := h.2 (beq_f ag)
  refine bif_fo (fun ar => ?_) (fun ar => ?_)
  ·have h := h.2 (beq_f ar)
   exact h
  have h := h.1 (beq_t ar)
  refine ⟨a8, a2.celli 1 rfl rfl, ?_⟩
  refine bif_fo (fun au => ?_) (fun au => ?_)
  ·have h := h.2 (beq_f au)
   exact h
  have h := h.1 (beq_t au)
  refine ⟨a1, a2.celli 2 rfl rfl, ?_⟩
  refine bif_fo (fun b2 => ?_) (fun b2 => ?_)
  ·have h := h.2 (beq_f b2)
   exact h
  have h := h.1 (beq_t b2)
  refine ⟨a0, a2.celli 3 rfl rfl, ?_⟩
  refine bif_fo (fun b3 => ?_) (fun b3 => ?_)
  ·have h := h.2 (beq_f b3)
   exact h
  have h := h.1 (beq_t b3)
  refine ⟨a5, a3, a4, a2.celli 5 rfl rfl, ?_⟩
  refine bif_of (fun al => ?_) (fun al => ?_)
  ·have h := h.1 (beq_t al)
   exact h
  have h := h.2 (beq_f al)
  refine ⟨a5, a3, a4, a2.celli 5 rfl rfl, ?_⟩
  exact h

theorem Q10.go (a6 a9 a2 a4 : Int) (a0 : Option Addr) (a3 a1 : Nat) (a7 : Option Addr) (a8 a5 : Nat) {R : RW} {w : World} (h : Q10.N a6 a9 a2 a4 a0 a3 a1 a7 a8 a5 R w) : Calls Try.prog 34 #[.agg #[.int .i64 a6, .int .i64 a9, .int .u64 a2, .int .i64 a4, .slice a0 a3 a1, .slice a7 a8 a5]] w fun e w' => ∃ v, e = .returned v ∧ R v w' := Q10.ok a6 a9 a2 a4 a0 a3 a1 a7 a8 a5 (Q10.up a6 a9 a2 a4 a0 a3 a1 a7 a8 a5 h)
theorem Q10.run (a6 a9 a2 a4 : Int) (a0 : Option Addr) (a3 a1 : Nat) (a7 : Option Addr) (a8 a5 : Nat) {V : Value} {Q : World → Prop} {w : World} (h : Q10.N a6 a9 a2 a4 a0 a3 a1 a7 a8 a5 (fun v w' => v = V ∧ Q w') w) : Calls Try.prog 34 #[.agg #[.int .i64 a6, .int .i64 a9, .int .u64 a2, .int .i64 a4, .slice a0 a3 a1, .slice a7 a8 a5]] w (Ret V Q) := (Q10.go a6 a9 a2 a4 a0 a3 a1 a7 a8 a5 h).mono fun e w' ⟨v, he, hv, hq⟩ => ⟨by rw [he, hv], hq⟩

def Q18.M (a3 : Int) (R : RW) (w : World) : Prop :=
 thenW (w.alloc (.cells #[.slice none 0 0, .int .i64 0] 43)) fun a6 =>
 thenW (a6.alloc (.cells #[.int .i64 0, .int .u64 a3, .int .i64 0, .int .i64 (-1), .int .i64 0] 70)) fun a7 =>
 putsK a7 (blk w.heap.size) [.slice (some (blk a6.heap.size)) 1 1, .int .i64 (-1)] 0 fun a5 =>
 ∃ (a2 : Option Addr) (a4 a1 : Nat) (a0 : Int), cellsAt a5 (blk w.heap.size) [.slice a2 a4 a1, .int .i64 a0] 0 ∧
 R (.agg #[.slice a2 a4 a1, .int .i64 a0]) a5

theorem Q18.ok (a0 : Int) {R : RW} {w : World} (h : Q18.M a0 R w) : Calls Try.prog 20 #[.int .u64 a0] w fun e w' => ∃ v, e = .returned v ∧ R v w' :=
  Q0l follows (H := []) (args := [.int .u64 a0]) (cast (by kernel_rfl) h)

def Q18.N (a0 : Int) (R : RW) (w : World) : Prop :=
 ∀ (a1 : World) (q4 p5 : Nat), Ext no w a1 → Blk a1 q4 70 [.int .i64 0, .int .u64 a0, .int .i64 0, .int .i64 (-1), .int .i64 0] → w.heap.size ≤ q4 → q4 < a1.heap.size → Privq w q4 [p5] →
 ∀ (a2 : World), Ext (fun b => b = p5) a1 a2 →
 R (.agg #[.slice (some (blk q4)) 1 1, .int .i64 (-1)]) a2

theorem Q18.up (a0 : Int) {R : RW} {w : World} (h : Q18.N a0 R w) : Q18.M a0 R w := by
  unfold Q18.M
  unfold Q18.N at h
  refine Q01 fun a3 e2 => ?_
  have a1 := Blk.of_new e2
  have a6 := ((Ext.refl no w)).size
  have a4 := (Ext.refl no w).x_alloc e2
  refine Q01 fun a2 e3 => ?_
  have a8 := a1.lt
  have a1 := a1.x_alloc e3
  have h := h a2 a3.heap.size (w.heap.size) (a4.x_alloc e3) (Blk.of_new e3) (a4).size (Q0w e3) (Privq.cons a6 a8 Privq.nil)
  have a7 : Ext (fun b => b = w.heap.size) a2 a2 := ((Ext.refl no a2)).none
  refine Q0g (k := 0) (j := 0) a1 (Nat.le_of_ble_eq_true rfl) fun a5 X6 b6 => ?_
  have a9 := a7.x_puts X6 (.inl rfl)
  have a1 : Blk a5 w.heap.size 43 [.slice (some (blk a3.heap.size)) 1 1, .int .i64 (-1)] := b6
  refine ⟨(some (blk a3.heap.size)), 1, 1, (-1), ⟨a1.celli 0 rfl rfl, a1.celli 1 rfl rfl, trivial⟩, ?_⟩
  have h := h a5 a9
  exact h

theorem Q18.go (a0 : Int) {R : RW} {w : World} (h : Q18.N a0 R w) : Calls Try.prog 20 #[.int .u64 a0] w fun e w' => ∃ v, e = .returned v ∧ R v w' := Q18.ok a0 (Q18.up a0 h)
def Q0O.M (a3 : Option Addr) (a5 a6 : Nat) (a2 a4 : Int) (R : RW) (w : World) : Prop :=
 thenW (w.alloc (.cells #[.slice a3 a5 a6, .int .i64 a2] 43)) fun a7 =>
 ∃ (a8 : Option Addr) (a9 aa : Nat), a7.cell? ((blk w.heap.size).add 0) = some (.slice a8 a9 aa) ∧
 Calls Try.prog 73 #[.slice a8 a9 aa, .int .i64 a4, .func (.func 74) #[] #[]] a7 fun ab ac => ∃ (a1 : Int) (a0 : Bool), ab = .returned (.tuple #[.int .i64 a1, .bool a0]) ∧
 R (.tuple #[.int .i64 a1, .bool a0]) ac

theorem Q0O.ok (a1 : Option Addr) (a4 a3 : Nat) (a0 a2 : Int) {R : RW} {w : World} (h : Q0O.M a1 a4 a3 a0 a2 R w) : Calls Try.prog 47 #[.agg #[.slice a1 a4 a3, .int .i64 a0], .int .i64 a2] w fun e w' => ∃ v, e = .returned v ∧ R v w' :=
  Q0l follows (H := []) (args := [.agg #[.slice a1 a4 a3, .int .i64 a0], .int .i64 a2]) (cast (by kernel_rfl) h)

def Q0O.N (a3 : Option Addr) (a6 a5 : Nat) (a2 a4 : Int) (R : RW) (w : World) : Prop :=
 ∀ (a7 : World), Ext no w a7 →
 Calls Try.prog 73 #[.slice a3 a6 a5, .int .i64 a4, .func (.func 74) #[] #[]] a7 fun a8 a9 => ∃ (a1 : Int) (a0 : Bool), a8 = .returned (.tuple #[.int .i64 a1, .bool a0]) ∧
 R (.tuple #[.int .i64 a1, .bool a0]) a9

theorem Q0O.up (a3 : Option Addr) (a5 a4 : Nat) (a0 a6 : Int) {R : RW} {w : World} (h : Q0O.N a3 a5 a4 a0 a6 R w) : Q0O.M a3 a5 a4 a0 a6 R w := by
  unfold Q0O.M
  unfold Q0O.N at h
  refine Q01 fun a7 e4 => ?_
  have a8 := Blk.of_new e4
  have aa := ((Ext.refl no w)).size
  have a9 := (Ext.refl no w).x_alloc e4
  refine ⟨a3, a5, a4, a8.celli 0 rfl rfl, ?_⟩
  have h := h a7 a9
  refine h.mono fun ac ab h => ?_
  obtain ⟨a2, a1, he, h⟩ := h
  refine ⟨a2, a1, he, ?_⟩
  exact h

theorem Q0O.go (a1 : Option Addr) (a4 a3 : Nat) (a0 a2 : Int) {R : RW} {w : World} (h : Q0O.N a1 a4 a3 a0 a2 R w) : Calls Try.prog 47 #[.agg #[.slice a1 a4 a3, .int .i64 a0], .int .i64 a2] w fun e w' => ∃ v, e = .returned v ∧ R v w' := Q0O.ok a1 a4 a3 a0 a2 (Q0O.up a1 a4 a3 a0 a2 h)
theorem Q0O.run (a1 : Option Addr) (a4 a3 : Nat) (a0 a2 : Int) {V : Value} {Q : World → Prop} {w : World} (h : Q0O.N a1 a4 a3 a0 a2 (fun v w' => v = V ∧ Q w') w) : Calls Try.prog 47 #[.agg #[.slice a1 a4 a3, .int .i64 a0], .int .i64 a2] w (Ret V Q) := (Q0O.go a1 a4 a3 a0 a2 h).mono fun e w' ⟨v, he, hv, hq⟩ => ⟨by rw [he, hv], hq⟩

def Q0E.M (a4 a1 a3 a6 a2 aa : Int) (R : RW) (w : World) : Prop :=
 thenW (w.alloc (.cells #[.int .i64 a4, .int .u64 a1, .int .i64 a3, .int .i64 a6, .int .i64 a2] 70)) fun a9 =>
 ∃ (a5 : Int), a9.cell? ((blk w.heap.size).add 0) = some (.int .i64 a5) ∧
 Calls Try.prog 75 #[.int .i64 a5, .int .i64 aa] a9 fun a7 a8 => ∃ (a0 : Int), a7 = .returned (.int .i64 a0) ∧
 R (.int .i64 a0) a8

theorem Q0E.ok (a3 a0 a2 a4 a1 a5 : Int) {R : RW} {w : World} (h : Q0E.M a3 a0 a2 a4 a1 a5 R w) : Calls Try.prog 74 #[.agg #[.int .i64 a3, .int .u64 a0, .int .i64 a2, .int .i64 a4, .int .i64 a1], .int .i64 a5] w fun e w' => ∃ v, e = .returned v ∧ R v w' :=
  Q0l follows (H := []) (args := [.agg #[.int .i64 a3, .int .u64 a0, .int .i64 a2, .int .i64 a4, .int .i64 a1], .int .i64 a5]) (cast (by kernel_rfl) h)

def Q0E.N (a1 a0 a3 a5 a2 a6 : Int) (R : RW) (w : World) : Prop :=
 ∀ (a4 : World), Ext no w a4 →
 R (.int .i64 (Q0p.F a1 a6)) a4

theorem Q0E.up (a1 a0 a3 a4 a2 a5 : Int) {R : RW} {w : World} (h : Q0E.N a1 a0 a3 a4 a2 a5 R w) : Q0E.M a1 a0 a3 a4 a2 a5 R w := by
  unfold Q0E.M
  unfold Q0E.N at h
  refine Q01 fun a9 e7 => ?_
  have a6 := Blk.of_new e7
  have aa := ((Ext.refl no w)).size
  have a8 := (Ext.refl no w).x_alloc e7
  refine ⟨a1, a6.celli 0 rfl rfl, ?_⟩
  refine (Q0p.pure a1 a5).mono fun ee ww8 ⟨he, hxx⟩ => ⟨(Q0p.F a1 a5), he, ?_⟩
  have a7 := a8.trans hxx
  have h := h ww8 a7
  exact h

theorem Q0E.go (a3 a0 a2 a4 a1 a5 : Int) {R : RW} {w : World} (h : Q0E.N a3 a0 a2 a4 a1 a5 R w) : Calls Try.prog 74 #[.agg #[.int .i64 a3, .int .u64 a0, .int .i64 a2, .int .i64 a4, .int .i64 a1], .int .i64 a5] w fun e w' => ∃ v, e = .returned v ∧ R v w' := Q0E.ok a3 a0 a2 a4 a1 a5 (Q0E.up a3 a0 a2 a4 a1 a5 h)
theorem Q0E.run (a3 a0 a2 a4 a1 a5 : Int) {V : Value} {Q : World → Prop} {w : World} (h : Q0E.N a3 a0 a2 a4 a1 a5 (fun v w' => v = V ∧ Q w') w) : Calls Try.prog 74 #[.agg #[.int .i64 a3, .int .u64 a0, .int .i64 a2, .int .i64 a4, .int .i64 a1], .int .i64 a5] w (Ret V Q) := (Q0E.go a3 a0 a2 a4 a1 a5 h).mono fun e w' ⟨v, he, hv, hq⟩ => ⟨by rw [he, hv], hq⟩

def Q0A.M (a6 a0 a4 a7 a1 a5 : Int) (a8 : Option Addr) (a9 aa : Nat) (R : RW) (w : World) : Prop :=
 thenW (w.alloc (.cells #[.int .i64 a6, .int .u64 a0, .int .i64 a4, .int .i64 a7, .int .i64 a1] 70)) fun ac =>
 thenW (ac.alloc (.cells #[.int .i64 a5, .slice a8 a9 aa] 60)) fun ab =>
 ∃ (a3 : Int), ab.cell? ((blk w.heap.size).add 0) = some (.int .i64 a3) ∧
 ∃ (a2 : Int), ab.cell? ((blk ac.heap.size).add 0) = some (.int .i64 a2) ∧
 R (.bool (a3 == a2)) ab

theorem Q0A.ok (a4 a0 a2 a5 a1 a3 : Int) (a6 : Option Addr) (a7 a8 : Nat) {R : RW} {w : World} (h : Q0A.M a4 a0 a2 a5 a1 a3 a6 a7 a8 R w) : Calls Try.prog 66 #[.agg #[.int .i64 a4, .int .u64 a0, .int .i64 a2, .int .i64 a5, .int .i64 a1], .agg #[.int .i64 a3, .slice a6 a7 a8]] w fun e w' => ∃ v, e = .returned v ∧ R v w' :=
  Q0l follows (H := []) (args := [.agg #[.int .i64 a4, .int .u64 a0, .int .i64 a2, .int .i64 a5, .int .i64 a1], .agg #[.int .i64 a3, .slice a6 a7 a8]]) (cast (by kernel_rfl) h)

def Q0A.N (a2 a1 a4 a6 a3 a0 : Int) (a7 : Option Addr) (a8 a9 : Nat) (R : RW) (w : World) : Prop :=
 ∀ (a5 : World), Ext no w a5 →
 R (.bool (a2 == a0)) a5

theorem Q0A.up (a4 a0 a3 a6 a1 a2 : Int) (a5 : Option Addr) (a8 a7 : Nat) {R : RW} {w : World} (h : Q0A.N a4 a0 a3 a6 a1 a2 a5 a8 a7 R w) : Q0A.M a4 a0 a3 a6 a1 a2 a5 a8 a7 R w := by
  unfold Q0A.M
  unfold Q0A.N at h
  refine Q01 fun ag e8 => ?_
  have a9 := Blk.of_new e8
  have af := ((Ext.refl no w)).size
  have aa := (Ext.refl no w).x_alloc e8
  refine Q01 fun ae e9 => ?_
  have ac := Blk.of_new e9
  have ah := (aa).size
  have ab := Nat.ne_of_lt a9.lt
  have a9 := a9.x_alloc e9
  have ad := aa.x_alloc e9
  refine ⟨a4, a9.celli 0 rfl rfl, ?_⟩
  refine ⟨a2, ac.celli 0 rfl rfl, ?_⟩
  have h := h ae ad
  exact h

theorem Q0A.go (a4 a0 a2 a5 a1 a3 : Int) (a6 : Option Addr) (a7 a8 : Nat) {R : RW} {w : World} (h : Q0A.N a4 a0 a2 a5 a1 a3 a6 a7 a8 R w) : Calls Try.prog 66 #[.agg #[.int .i64 a4, .int .u64 a0, .int .i64 a2, .int .i64 a5, .int .i64 a1], .agg #[.int .i64 a3, .slice a6 a7 a8]] w fun e w' => ∃ v, e = .returned v ∧ R v w' := Q0A.ok a4 a0 a2 a5 a1 a3 a6 a7 a8 (Q0A.up a4 a0 a2 a5 a1 a3 a6 a7 a8 h)
theorem Q0A.run (a4 a0 a2 a5 a1 a3 : Int) (a6 : Option Addr) (a7 a8 : Nat) {V : Value} {Q : World → Prop} {w : World} (h : Q0A.N a4 a0 a2 a5 a1 a3 a6 a7 a8 (fun v w' => v = V ∧ Q w') w) : Calls Try.prog 66 #[.agg #[.int .i64 a4, .int .u64 a0, .int .i64 a2, .int .i64 a5, .int .i64 a1], .agg #[.int .i64 a3, .slice a6 a7 a8]] w (Ret V Q) := (Q0A.go a4 a0 a2 a5 a1 a3 a6 a7 a8 h).mono fun e w' ⟨v, he, hv, hq⟩ => ⟨by rw [he, hv], hq⟩

abbrev Q0D.J1 (bj : Int) (bb ba ar : Addr) (R : RW) (bd : World) : Prop :=
 thenW (bd.drew) fun ai =>
 ∃ (av : Option Addr) (aw au : Nat), ai.cell? (ar.add 0) = some (.slice av aw au) ∧
 ∃ (an : Int), ai.cell? (ba.add 1) = some (.int .i64 an) ∧
 ∃ (a0 : Int), ai.cell? (ba.add 2) = some (.int .u64 a0) ∧
 ∃ (a1 : Int), ai.cell? (ar.add 1) = some (.int .i64 a1) ∧
 (Calls Try.prog 67 #[.slice av aw au] ai fun bf aq => ∃ (ab : Option Addr) (ae aa : Nat), bf = .returned (.slice ab ae aa) ∧
 aq.cell? (ar.add 1) = some (.int .i64 a1) ∧
 aq.cell? (ba.add 2) = some (.int .u64 a0) ∧
 aq.cell? (ba.add 1) = some (.int .i64 an) ∧
 thenW (aq.alloc (.cells #[.int .i64 an, .int .u64 a0, .int .i64 (IntKind.i64.wrap (a1 + 1)), .int .i64 (-1), .int .i64 0] 70)) fun bh =>
 Calls Try.prog 68 #[.slice ab ae aa, .int .i64 bj, .slice (some (blk aq.heap.size)) 1 1] bh fun bc b8 => ∃ (a5 : Option Addr) (a7 a6 : Nat), bc = .returned (.slice a5 a7 a6) ∧
 Q07 b8 ((ar.add 0).add 0) ∧
 thenW (b8.setCell ((ar.add 0).add 0) (.slice a5 a7 a6)) fun b5 =>
 ∃ (ay : Option Addr) (b1 b0 : Nat) (ac : Int), cellsAt b5 ar [.slice ay b1 b0, .int .i64 ac] 0 ∧
 putsK b5 bb [.slice ay b1 b0, .int .i64 ac] 0 fun b6 =>
 ∃ (ao : Option Addr) (ap al : Nat) (a3 : Int), cellsAt b6 bb [.slice ao ap al, .int .i64 a3] 0 ∧
 R (.tuple #[.agg #[.slice ao ap al, .int .i64 a3], .int .i64 0]) b6) ∧
 (thenW (ai.alloc (.cells #[.int .i64 an, .int .u64 a0, .int .i64 (IntKind.i64.wrap (a1 + 1)), .int .i64 (-1), .int .i64 0] 70)) fun b7 =>
 b7.cell? (ar.add 0) = some (.slice av aw au) ∧
 Calls Try.prog 67 #[.slice av aw au] b7 fun bi bg => ∃ (ah : Option Addr) (ad af : Nat), bi = .returned (.slice ah ad af) ∧
 Calls Try.prog 68 #[.slice ah ad af, .int .i64 bj, .slice (some (blk ai.heap.size)) 1 1] bg fun be b4 => ∃ (a9 : Option Addr) (a4 a8 : Nat), be = .returned (.slice a9 a4 a8) ∧
 Q07 b4 ((ar.add 0).add 0) ∧
 thenW (b4.setCell ((ar.add 0).add 0) (.slice a9 a4 a8)) fun b9 =>
 ∃ (ax : Option Addr) (b2 az : Nat) (ag : Int), cellsAt b9 ar [.slice ax b2 az, .int .i64 ag] 0 ∧
 putsK b9 bb [.slice ax b2 az, .int .i64 ag] 0 fun b3 =>
 ∃ (aj : Option Addr) (ak am : Nat) (a2 : Int), cellsAt b3 bb [.slice aj ak am, .int .i64 a2] 0 ∧
 R (.tuple #[.agg #[.slice aj ak am, .int .i64 a2], .int .i64 0]) b3)

def Q0D.M (au : Option Addr) (ar av : Nat) (ad ai ao a5 ac : Int) (a6 : Option Addr) (aa a7 : Nat) (am : Option Addr) (aj al : Nat) (R : RW) (w : World) : Prop :=
 thenW (w.alloc (.cells #[.slice au ar av, .int .i64 ad] 43)) fun aq =>
 thenW (aq.alloc (.cells #[.int .i64 ai, .int .i64 ao, .int .u64 a5, .int .i64 ac, .slice a6 aa a7, .slice am aj al] 52)) fun ab =>
 thenW (ab.alloc (.cells #[.slice none 0 0, .int .i64 0] 43)) fun ak =>
 ∃ (ae : Option Addr) (ag ah : Nat) (a1 : Int), cellsAt ak (blk w.heap.size) [.slice ae ag ah, .int .i64 a1] 0 ∧
 ∃ (af : Int), ak.cell? ((blk aq.heap.size).add 1) = some (.int .i64 af) ∧
 Calls Try.prog 47 #[.agg #[.slice ae ag ah, .int .i64 a1], .int .i64 af] ak fun aw an => ∃ (a9 : Int) (a8 : Bool), aw = .returned (.tuple #[.int .i64 a9, .bool a8]) ∧
 bif a8 then (
 putsK an (blk ab.heap.size) [.slice none 0 0, .int .i64 0] 0 fun ap =>
 ∃ (a4 : Option Addr) (a3 a2 : Nat) (a0 : Int), cellsAt ap (blk ab.heap.size) [.slice a4 a3 a2, .int .i64 a0] 0 ∧
 R (.tuple #[.agg #[.slice a4 a3 a2, .int .i64 a0], .int .i64 13]) ap) else (
 Q0D.J1 a9 (blk ab.heap.size) (blk aq.heap.size) (blk w.heap.size) R an)

theorem Q0D.ok (ab : Option Addr) (ad ac : Nat) (a5 a7 aa a0 a4 : Int) (a1 : Option Addr) (a3 a2 : Nat) (a8 : Option Addr) (a9 a6 : Nat) {R : RW} {w : World} (h : Q0D.M ab ad ac a5 a7 aa a0 a4 a1 a3 a2 a8 a9 a6 R w) : Calls Try.prog 36 #[.agg #[.slice ab ad ac, .int .i64 a5], .agg #[.int .i64 a7, .int .i64 aa, .int .u64 a0, .int .i64 a4, .slice a1 a3 a2, .slice a8 a9 a6]] w fun e w' => ∃ v, e = .returned v ∧ R v w' :=
  Q0l follows (H := []) (args := [.agg #[.slice ab ad ac, .int .i64 a5], .agg #[.int .i64 a7, .int .i64 aa, .int .u64 a0, .int .i64 a4, .slice a1 a3 a2, .slice a8 a9 a6]]) (cast (by kernel_rfl) h)

def Q0D.N (ao : Option Addr) (an ar : Nat) (a3 b3 ah a4 b0 : Int) (av : Option Addr) (ax aw : Nat) (b8 : Option Addr) (b4 b6 : Nat) (R : RW) (w : World) : Prop :=
 ∀ (aj : World) (al b2 ak : Nat), Ext no w aj → Priv w aj [al, b2, ak] →
 Calls Try.prog 47 #[.agg #[.slice ao an ar, .int .i64 a3], .int .i64 ah] aj fun b9 ad => ∃ (ac : Int) (ab : Bool), b9 = .returned (.tuple #[.int .i64 ac, .bool ab]) ∧
 Keep [al, b2, ak] aj ad ∧
 (ab = true →
 ∀ (ay : World), Ext (fun b => b = ak) ad ay →
 R (.tuple #[.agg #[.slice none 0 0, .int .i64 0], .int .i64 13]) ay) ∧
 (ab = false →
 (-9223372036854775808 : Int) ≤ (a3 + 1) ∧ (a3 + 1) < 9223372036854775808 ∧
 (∀ (aq : World), Ext no ad aq →
 Calls Try.prog 67 #[.slice ao an ar] aq fun b7 am => ∃ (a6 : Option Addr) (aa a9 : Nat), b7 = .returned (.slice a6 aa a9) ∧
 Keep [al, b2, ak] aq am ∧
 ∀ (ag : World) (b1 : Nat), Ext no am ag → Blk ag b1 70 [.int .i64 ah, .int .u64 a4, .int .i64 (a3 + 1), .int .i64 (-1), .int .i64 0] → am.heap.size ≤ b1 → b1 < ag.heap.size →
 Calls Try.prog 68 #[.slice a6 aa a9, .int .i64 ac, .slice (some (blk b1)) 1 1] ag fun au ae => ∃ (a1 : Option Addr) (a2 a0 : Nat), au = .returned (.slice a1 a2 a0) ∧
 Keep [al, ak] ag ae ∧
 ∀ (af : World), Ext (fun b => b = ak ∨ b = al) ae af →
 R (.tuple #[.agg #[.slice a1 a2 a0, .int .i64 a3], .int .i64 0]) af) ∧
 (∀ (ai : World) (az : Nat), Ext no ad ai → Blk ai az 70 [.int .i64 ah, .int .u64 a4, .int .i64 (a3 + 1), .int .i64 (-1), .int .i64 0] → ad.heap.size ≤ az → az < ai.heap.size →
 Calls Try.prog 67 #[.slice ao an ar] ai fun b5 ap => ∃ (a7 : Option Addr) (a5 a8 : Nat), b5 = .returned (.slice a7 a5 a8) ∧
 Keep [al, ak] ai ap ∧
 Calls Try.prog 68 #[.slice a7 a5 a8, .int .i64 ac, .slice (some (blk az)) 1 1] ap fun au ae => ∃ (a1 : Option Addr) (a2 a0 : Nat), au = .returned (.slice a1 a2 a0) ∧
 Keep [al, ak] ap ae ∧
 ∀ (af : World), Ext (fun b => b = ak ∨ b = al) ae af →
 R (.tuple #[.agg #[.slice a1 a2 a0, .int .i64 a3], .int .i64 0]) af))

theorem Q0D.up (au : Option Addr) (ar av : Nat) (a3 af ae a6 ad : Int) (a8 : Option Addr) (aa a9 : Nat) (ap : Option Addr) (ag an : Nat) {R : RW} {w : World} (h : Q0D.N au ar av a3 af ae a6 ad a8 aa a9 ap ag an R w) : Q0D.M au ar av a3 af ae a6 ad a8 aa a9 ap ag an R w := by
  unfold Q0D.M
  unfold Q0D.N at h
  refine Q01 fun bt e9 => ?_
  have a4 := Blk.of_new e9
  have c1 := ((Ext.refl no w)).size
  have bp := (Ext.refl no w).x_alloc e9
  refine Q01 fun ab bj => ?_
  have ac := Blk.of_new bj
  have bu := (bp).size
  have bq := Nat.ne_of_lt a4.lt
  have a4 := a4.x_alloc bj
  have ba := bp.x_alloc bj
  refine Q01 fun bh bd => ?_
  have a5 := Blk.of_new bd
  have c3 := (ba).size
  have aw := Nat.ne_of_lt a4.lt
  have a4 := a4.x_alloc bd
  have br := Nat.ne_of_lt ac.lt
  have ac := ac.x_alloc bd
  have be := ba.x_alloc bd
  refine ⟨au, ar, av, a3, ⟨a4.celli 0 rfl rfl, a4.celli 1 rfl rfl, trivial⟩, ?_⟩
  refine ⟨ae, ac.celli 1 rfl rfl, ?_⟩
  have h := h bh (w.heap.size) (bt.heap.size) (ab.heap.size) be (Priv.cons c1 a4.lt (Priv.cons bu ac.lt (Priv.cons c3 a5.lt Priv.nil)))
  refine h.mono fun c4 aq h => ?_
  obtain ⟨b1, az, he, hk, h⟩ := h
  refine ⟨b1, az, he, ?_⟩
  have a4 := hk.blk a4 (by simp)
  have ac := hk.blk ac (by simp)
  have a5 := hk.blk a5 (by simp)
  refine bif_of (fun bf => ?_) (fun bf => ?_)
  ·have h := h.1 bf
   have bi : Ext (fun b => b = ab.heap.size) aq aq := ((Ext.refl no aq)).none
   refine Q0g (k := 0) (j := 0) a5 (Nat.le_of_ble_eq_true rfl) fun b9 bs bv => ?_
   have bk := bi.x_puts bs (.inl rfl)
   have a5 : Blk b9 ab.heap.size 43 [.slice none 0 0, .int .i64 0] := bv
   refine ⟨none, 0, 0, 0, ⟨a5.celli 0 rfl rfl, a5.celli 1 rfl rfl, trivial⟩, ?_⟩
   have h := h b9 bk
   exact h
  have h := h.2 bf
  unfold Q0D.J1
  refine Q01 fun b8 bc => ?_
  have b3 := (Ext.refl no aq).x_drew bc
  have a4 := a4.x_drew bc
  have ac := ac.x_drew bc
  have a5 := a5.x_drew bc
  refine ⟨au, ar, av, a4.celli 0 rfl rfl, ?_⟩
  refine ⟨ae, ac.celli 1 rfl rfl, ?_⟩
  refine ⟨a6, ac.celli 2 rfl rfl, ?_⟩
  refine ⟨a3, a4.celli 1 rfl rfl, ?_⟩
  obtain ⟨bx, c2, h⟩ := h
  try rw [w64 bx c2]
  obtain ⟨h0', h1'⟩ := h
  refine ⟨?_, ?_⟩
  ·have h := h0'
   have h := h b8 b3
   refine h.mono fun c0 ax h => ?_
   obtain ⟨aj, ao, am, he, hk, h⟩ := h
   refine ⟨aj, ao, am, he, ?_⟩
   have a4 := hk.blk a4 (by simp)
   have ac := hk.blk ac (by simp)
   have a5 := hk.blk a5 (by simp)
   refine ⟨a4.celli 1 rfl rfl, ac.celli 2 rfl rfl, ac.celli 1 rfl rfl, ?_⟩
   refine Q01 fun bl bb => ?_
   have a4 := a4.x_alloc bb
   have a5 := a5.x_alloc bb
   have h := h bl ax.heap.size ((Ext.refl no ax).x_alloc bb) (Blk.of_new bb) ((Ext.refl no ax)).size (Q0w bb)
   refine h.mono fun bn a7 h => ?_
   obtain ⟨a1, a2, a0, he, hk, h⟩ := h
   refine ⟨a1, a2, a0, he, ?_⟩
   have a4 := hk.blk a4 (by simp)
   have a5 := hk.blk a5 (by simp)
   have ay : Ext (fun b => b = w.heap.size) a7 a7 := ((Ext.refl no a7)).none
   refine ⟨a4.cani 0 rfl rfl, Q01 fun b6 b0 => ?_⟩
   have b5 := ay.x_set (q := w.heap.size) (i := 0) rfl (.inl rfl) b0
   have a4 := a4.seti 0 rfl b0
   have a5 := a5.oth (q := w.heap.size) (i := 0) rfl (Ne.symm aw) b0
   refine ⟨a1, a2, a0, a3, ⟨a4.celli 0 rfl rfl, a4.celli 1 rfl rfl, trivial⟩, ?_⟩
   have b4 : Ext (fun b => b = ab.heap.size ∨ b = w.heap.size) a7 b6 := (b5).mono fun _ h _ => .inr h
   refine Q0g (k := 0) (j := 0) a5 (Nat.le_of_ble_eq_true rfl) fun ai bg bm => ?_
   have b2 := b4.x_puts bg (.inl (.inl rfl))
   have a5 : Blk ai ab.heap.size 43 [.slice a1 a2 a0, .int .i64 a3] := bm
   refine ⟨a1, a2, a0, a3, ⟨a5.celli 0 rfl rfl, a5.celli 1 rfl rfl, trivial⟩, ?_⟩
   have h := h ai b2
   exact h
  have h := h1'
  refine Q01 fun bo b7 => ?_
  have a4 := a4.x_alloc b7
  have a5 := a5.x_alloc b7
  have h := h bo b8.heap.size (b3.x_alloc b7) (Blk.of_new b7) (b3).size (Q0w b7)
  refine ⟨a4.celli 0 rfl rfl, ?_⟩
  refine h.mono fun bz bw h => ?_
  obtain ⟨ak, ah, al, he, hk, h⟩ := h
  refine ⟨ak, ah, al, he, ?_⟩
  have a4 := hk.blk a4 (by simp)
  have a5 := hk.blk a5 (by simp)
  refine h.mono fun bn a7 h => ?_
  obtain ⟨a1, a2, a0, he, hk, h⟩ := h
  refine ⟨a1, a2, a0, he, ?_⟩
  have a4 := hk.blk a4 (by simp)
  have a5 := hk.blk a5 (by simp)
  have ay : Ext (fun b => b = w.heap.size) a7 a7 := ((Ext.refl no a7)).none
  refine ⟨a4.cani 0 rfl rfl, Q01 fun b6 b0 => ?_⟩
  have b5 := ay.x_set (q := w.heap.size) (i := 0) rfl (.inl rfl) b0
  have a4 := a4.seti 0 rfl b0
  have a5 := a5.oth (q := w.heap.size) (i := 0) rfl (Ne.symm aw) b0
  refine ⟨a1, a2, a0, a3, ⟨a4.celli 0 rfl rfl, a4.celli 1 rfl rfl, trivial⟩, ?_⟩
  have b4 : Ext (fun b => b = ab.heap.size ∨ b = w.heap.size) a7 b6 := (b5).mono fun _ h _ => .inr h
  refine Q0g (k := 0) (j := 0) a5 (Nat.le_of_ble_eq_true rfl) fun ai bg bm => ?_
  have b2 := b4.x_puts bg (.inl (.inl rfl))
  have a5 : Blk ai ab.heap.size 43 [.slice a1 a2 a0, .int .i64 a3] := bm
  refine ⟨a1, a2, a0, a3, ⟨a5.celli 0 rfl rfl, a5.celli 1 rfl rfl, trivial⟩, ?_⟩
  have h := h ai b2
  exact h

theorem Q0D.go (ab : Option Addr) (ad ac : Nat) (a5 a7 aa a0 a4 : Int) (a1 : Option Addr) (a3 a2 : Nat) (a8 : Option Addr) (a9 a6 : Nat) {R : RW} {w : World} (h : Q0D.N ab ad ac a5 a7 aa a0 a4 a1 a3 a2 a8 a9 a6 R w) : Calls Try.prog 36 #[.agg #[.slice ab ad ac, .int .i64 a5], .agg #[.int .i64 a7, .int .i64 aa, .int .u64 a0, .int .i64 a4, .slice a1 a3 a2, .slice a8 a9 a6]] w fun e w' => ∃ v, e = .returned v ∧ R v w' := Q0D.ok ab ad ac a5 a7 aa a0 a4 a1 a3 a2 a8 a9 a6 (Q0D.up ab ad ac a5 a7 aa a0 a4 a1 a3 a2 a8 a9 a6 h)
abbrev Q0n.J1 (an ai am : Addr) (R : RW) (a6 : World) : Prop :=
 ∃ (a5 : Int), a6.cell? (am.add 1) = some (.int .i64 a5) ∧
 bif decide (a5 < 0) then (
 Q07 a6 ((an.add 3).add 0) ∧
 thenW (a6.setCell ((an.add 3).add 0) (.int .i64 (-2))) fun al =>
 ∃ (af : Option Addr) (ah ae : Nat) (a2 : Int), cellsAt al am [.slice af ah ae, .int .i64 a2] 0 ∧
 putsK al ai [.slice af ah ae, .int .i64 a2] 0 fun ak =>
 ∃ (aa : Option Addr) (a4 a9 : Nat) (a0 : Int), cellsAt ak ai [.slice aa a4 a9, .int .i64 a0] 0 ∧
 R (.tuple #[.agg #[.slice aa a4 a9, .int .i64 a0], .int .i64 0]) ak) else (
 ∃ (ac : Option Addr) (ag ad : Nat) (a3 : Int), cellsAt a6 am [.slice ac ag ad, .int .i64 a3] 0 ∧
 putsK a6 ai [.slice ac ag ad, .int .i64 a3] 0 fun aj =>
 ∃ (ab : Option Addr) (a8 a7 : Nat) (a1 : Int), cellsAt aj ai [.slice ab a8 a7, .int .i64 a1] 0 ∧
 R (.tuple #[.agg #[.slice ab a8 a7, .int .i64 a1], .int .i64 0]) aj)

abbrev Q0n.J2 (ag : Int) (am al ah : Addr) (R : RW) (ad : World) : Prop :=
 ∃ (a8 : Option Addr) (ab a9 : Nat), ad.cell? (ah.add 0) = some (.slice a8 ab a9) ∧
 Calls Try.prog 67 #[.slice a8 ab a9] ad fun aj ac => ∃ (a1 : Option Addr) (a2 a3 : Nat), aj = .returned (.slice a1 a2 a3) ∧
 Q07 ac ((ah.add 0).add 0) ∧
 thenW (ac.setCell ((ah.add 0).add 0) (.slice a1 a2 a3)) fun af =>
 ∃ (aa : Option Addr) (ae ak : Nat), af.cell? (ah.add 0) = some (.slice aa ae ak) ∧
 aa.elim False fun a7 =>
 0 ≤ (ag : Int) ∧ (ag : Int) < (ae : Int) ∧
 thenW (af.drew) fun a5 =>
 ∃ (a4 : Int), a5.cell? (ah.add 1) = some (.int .i64 a4) ∧
 ∃ (a0 : Int), a5.cell? (al.add 3) = some (.int .i64 a0) ∧
 Q07 a5 (((a7.add (Int.toNat ag * 5)).add 3).add 0) ∧
 thenW (a5.setCell (((a7.add (Int.toNat ag * 5)).add 3).add 0) (.int .i64 a4)) fun a6 =>
 a6.cell? (al.add 3) = some (.int .i64 a0) ∧
 Q07 a6 (((a7.add (Int.toNat ag * 5)).add 4).add 0) ∧
 thenW (a6.setCell (((a7.add (Int.toNat ag * 5)).add 4).add 0) (.int .i64 a0)) fun ai =>
 Q0n.J1 (a7.add (Int.toNat ag * 5)) am ah R ai

abbrev Q0n.J3 (a9 : Int) (aa ae ac : Addr) (R : RW) (a4 : World) : Prop :=
 ∃ (a8 : Option Addr) (a6 ab : Nat), a4.cell? (ac.add 0) = some (.slice a8 a6 ab) ∧
 a8.elim False fun ad =>
 0 ≤ (a9 : Int) ∧ (a9 : Int) < (a6 : Int) ∧
 ∃ (a5 : Int), a4.cell? ((ad.add (Int.toNat a9 * 5)).add 3) = some (.int .i64 a5) ∧
 bif a5 != (-1) then (
 putsK a4 aa [.slice none 0 0, .int .i64 0] 0 fun a7 =>
 ∃ (a2 : Option Addr) (a3 a1 : Nat) (a0 : Int), cellsAt a7 aa [.slice a2 a3 a1, .int .i64 a0] 0 ∧
 R (.tuple #[.agg #[.slice a2 a3 a1, .int .i64 a0], .int .i64 10]) a7) else (
 Q0n.J2 a9 aa ae ac R a4)

def Q0n.M (au : Option Addr) (ar av : Nat) (ad ai ao a5 ac : Int) (a6 : Option Addr) (aa a7 : Nat) (am : Option Addr) (aj al : Nat) (R : RW) (w : World) : Prop :=
 thenW (w.alloc (.cells #[.slice au ar av, .int .i64 ad] 43)) fun aq =>
 thenW (aq.alloc (.cells #[.int .i64 ai, .int .i64 ao, .int .u64 a5, .int .i64 ac, .slice a6 aa a7, .slice am aj al] 52)) fun ab =>
 thenW (ab.alloc (.cells #[.slice none 0 0, .int .i64 0] 43)) fun ak =>
 ∃ (ae : Option Addr) (ag ah : Nat) (a1 : Int), cellsAt ak (blk w.heap.size) [.slice ae ag ah, .int .i64 a1] 0 ∧
 ∃ (af : Int), ak.cell? ((blk aq.heap.size).add 1) = some (.int .i64 af) ∧
 Calls Try.prog 47 #[.agg #[.slice ae ag ah, .int .i64 a1], .int .i64 af] ak fun aw an => ∃ (a9 : Int) (a8 : Bool), aw = .returned (.tuple #[.int .i64 a9, .bool a8]) ∧
 bif !a8 then (
 putsK an (blk ab.heap.size) [.slice none 0 0, .int .i64 0] 0 fun ap =>
 ∃ (a4 : Option Addr) (a3 a2 : Nat) (a0 : Int), cellsAt ap (blk ab.heap.size) [.slice a4 a3 a2, .int .i64 a0] 0 ∧
 R (.tuple #[.agg #[.slice a4 a3 a2, .int .i64 a0], .int .i64 20]) ap) else (
 Q0n.J3 a9 (blk ab.heap.size) (blk aq.heap.size) (blk w.heap.size) R an)

theorem Q0n.ok (ab : Option Addr) (ad ac : Nat) (a5 a7 aa a0 a4 : Int) (a1 : Option Addr) (a3 a2 : Nat) (a8 : Option Addr) (a9 a6 : Nat) {R : RW} {w : World} (h : Q0n.M ab ad ac a5 a7 aa a0 a4 a1 a3 a2 a8 a9 a6 R w) : Calls Try.prog 37 #[.agg #[.slice ab ad ac, .int .i64 a5], .agg #[.int .i64 a7, .int .i64 aa, .int .u64 a0, .int .i64 a4, .slice a1 a3 a2, .slice a8 a9 a6]] w fun e w' => ∃ v, e = .returned v ∧ R v w' :=
  Q0l follows (H := []) (args := [.agg #[.slice ab ad ac, .int .i64 a5], .agg #[.int .i64 a7, .int .i64 aa, .int .u64 a0, .int .i64 a4, .slice a1 a3 a2, .slice a8 a9 a6]]) (cast (by kernel_rfl) h)

def Q0n.N (ac : Option Addr) (ab ar : Nat) (a1 aw ao ah aa : Int) (ai : Option Addr) (aq aj : Nat) (b1 : Option Addr) (ax b0 : Nat) (R : RW) (w : World) : Prop :=
 ∀ (a9 : World) (ae av a8 : Nat), Ext no w a9 → Priv w a9 [ae, av, a8] →
 Calls Try.prog 47 #[.agg #[.slice ac ab ar, .int .i64 a1], .int .i64 ao] a9 fun b2 a6 => ∃ (a0 : Int) (a5 : Bool), b2 = .returned (.tuple #[.int .i64 a0, .bool a5]) ∧
 Keep [ae, av, a8] a9 a6 ∧
 (a5 = false →
 ∀ (au : World), Ext (fun b => b = a8) a6 au →
 R (.tuple #[.agg #[.slice none 0 0, .int .i64 0], .int .i64 20]) au) ∧
 (a5 = true →
 ∃ b3 : Addr, ac = some b3 ∧
 0 ≤ (a0 : Int) ∧ (a0 : Int) < (ab : Int) ∧
 ∃ (ag : Int), a6.cell? ((b3.add (Int.toNat a0 * 5)).add 3) = some (.int .i64 ag) ∧
 (ag ≠ (-1) →
 ∀ (an : World), Ext (fun b => b = a8) a6 an →
 R (.tuple #[.agg #[.slice none 0 0, .int .i64 0], .int .i64 10]) an) ∧
 (ag = (-1) →
 Calls Try.prog 67 #[.slice ac ab ar] a6 fun az am => ∃ (a2 : Option Addr) (a3 a4 : Nat), az = .returned (.slice a2 a3 a4) ∧
 Keep [ae, av, a8] a6 am ∧
 ∃ a7 : Addr, a2 = some a7 ∧
 0 ≤ (a0 : Int) ∧ (a0 : Int) < (a3 : Int) ∧
 ∀ (ad : World), Ext (fun b => b = ae) am ad →
 Q07 ad (((a7.add (Int.toNat a0 * 5)).add 3).add 0) ∧
 (∀ p ∈ [ae, av, a8], p ≠ Addr.block ((a7.add (Int.toNat a0 * 5)).add 3)) ∧
 thenW (ad.setCell (((a7.add (Int.toNat a0 * 5)).add 3).add 0) (.int .i64 a1)) fun ak =>
 Q07 ak (((a7.add (Int.toNat a0 * 5)).add 4).add 0) ∧
 (∀ p ∈ [ae, a8], p ≠ Addr.block ((a7.add (Int.toNat a0 * 5)).add 4)) ∧
 thenW (ak.setCell (((a7.add (Int.toNat a0 * 5)).add 4).add 0) (.int .i64 aa)) fun af =>
 (a1 < 0 →
 Q07 af (((a7.add (Int.toNat a0 * 5)).add 3).add 0) ∧
 (∀ p ∈ [ae, a8], p ≠ Addr.block ((a7.add (Int.toNat a0 * 5)).add 3)) ∧
 thenW (af.setCell (((a7.add (Int.toNat a0 * 5)).add 3).add 0) (.int .i64 (-2))) fun ay =>
 ∀ (al : World), Ext (fun b => b = a8) ay al →
 R (.tuple #[.agg #[.slice a2 a3 a4, .int .i64 a1], .int .i64 0]) al) ∧
 ((0 : Int) ≤ a1 →
 ∀ (ap : World), Ext (fun b => b = a8) af ap →
 R (.tuple #[.agg #[.slice a2 a3 a4, .int .i64 a1], .int .i64 0]) ap)))

theorem Q0n.up (af : Option Addr) (al ai : Nat) (a0 ae ag a9 a7 : Int) (aa : Option Addr) (a8 ab : Nat) (ah : Option Addr) (ak aj : Nat) {R : RW} {w : World} (h : Q0n.N af al ai a0 ae ag a9 a7 aa a8 ab ah ak aj R w) : Q0n.M af al ai a0 ae ag a9 a7 aa a8 ab ah ak aj R w := by
  unfold Q0n.M
  unfold Q0n.N at h
  refine Q01 fun c9 e9 => ?_
  have a4 := Blk.of_new e9
  have c8 := ((Ext.refl no w)).size
  have bu := (Ext.refl no w).x_alloc e9
  refine Q01 fun a6 be => ?_
  have ac := Blk.of_new be
  have c0 := (bu).size
  have au := Nat.ne_of_lt a4.lt
  have a4 := a4.x_alloc be
  have az := bu.x_alloc be
  refine Q01 fun bq b1 => ?_
  have a5 := Blk.of_new b1
  have bw := (az).size
  have aw := Nat.ne_of_lt a4.lt
  have a4 := a4.x_alloc b1
  have bv := Nat.ne_of_lt ac.lt
  have ac := ac.x_alloc b1
  have bm := az.x_alloc b1
  refine ⟨af, al, ai, a0, ⟨a4.celli 0 rfl rfl, a4.celli 1 rfl rfl, trivial⟩, ?_⟩
  refine ⟨ag, ac.celli 1 rfl rfl, ?_⟩
  have h := h bq (w.heap.size) (c9.heap.size) (a6.heap.size) bm (Priv.cons c8 a4.lt (Priv.cons c0 ac.lt (Priv.cons bw a5.lt Priv.nil)))
  refine h.mono fun c3 ad h => ?_
  obtain ⟨an, am, he, hk, h⟩ := h
  refine ⟨an, am, he, ?_⟩
  have a4 := hk.blk a4 (by simp)
  have ac := hk.blk ac (by simp)
  have a5 := hk.blk a5 (by simp)
  refine bif_of (fun bo => ?_) (fun bo => ?_)
  ·have h := h.1 (not_t bo)
   have bc : Ext (fun b => b = a6.heap.size) ad ad := ((Ext.refl no ad)).none
   refine Q0g (k := 0) (j := 0) a5 (Nat.le_of_ble_eq_true rfl) fun av bx c7 => ?_
   have bi := bc.x_puts bx (.inl rfl)
   have a5 : Blk av a6.heap.size 43 [.slice none 0 0, .int .i64 0] := c7
   refine ⟨none, 0, 0, 0, ⟨a5.celli 0 rfl rfl, a5.celli 1 rfl rfl, trivial⟩, ?_⟩
   have h := h av bi
   exact h
  have h := h.2 (not_f bo)
  unfold Q0n.J3
  refine ⟨af, al, ai, a4.celli 0 rfl rfl, ?_⟩
  obtain ⟨ce, bp, h⟩ := h
  refine Q03 bp ?_
  obtain ⟨bg, bt, h⟩ := h
  refine ⟨bg, bt, ?_⟩
  obtain ⟨ba, bl, h⟩ := h
  refine ⟨ba, bl, ?_⟩
  refine bif_of (fun b7 => ?_) (fun b7 => ?_)
  ·have h := h.1 (bne_t b7)
   have bb : Ext (fun b => b = a6.heap.size) ad ad := ((Ext.refl no ad)).none
   refine Q0g (k := 0) (j := 0) a5 (Nat.le_of_ble_eq_true rfl) fun ar c4 cb => ?_
   have b6 := bb.x_puts c4 (.inl rfl)
   have a5 : Blk ar a6.heap.size 43 [.slice none 0 0, .int .i64 0] := cb
   refine ⟨none, 0, 0, 0, ⟨a5.celli 0 rfl rfl, a5.celli 1 rfl rfl, trivial⟩, ?_⟩
   have h := h ar b6
   exact h
  have h := h.2 (bne_f b7)
  unfold Q0n.J2
  refine ⟨af, al, ai, a4.celli 0 rfl rfl, ?_⟩
  refine h.mono fun cc ap h => ?_
  obtain ⟨a3, a1, a2, he, hk, h⟩ := h
  refine ⟨a3, a1, a2, he, ?_⟩
  have a4 := hk.blk a4 (by simp)
  have ac := hk.blk ac (by simp)
  have a5 := hk.blk a5 (by simp)
  have b5 : Ext (fun b => b = w.heap.size) ap ap := ((Ext.refl no ap)).none
  refine ⟨a4.cani 0 rfl rfl, Q01 fun c6 b0 => ?_⟩
  have bf := b5.x_set (q := w.heap.size) (i := 0) rfl (.inl rfl) b0
  have a4 := a4.seti 0 rfl b0
  have ac := ac.oth (q := w.heap.size) (i := 0) rfl (Ne.symm au) b0
  have a5 := a5.oth (q := w.heap.size) (i := 0) rfl (Ne.symm aw) b0
  refine ⟨a3, a1, a2, a4.celli 0 rfl rfl, ?_⟩
  obtain ⟨cd, bd, h⟩ := h
  refine Q03 bd ?_
  obtain ⟨bg, bt, h⟩ := h
  refine ⟨bg, bt, ?_⟩
  refine Q01 fun bh b2 => ?_
  have b8 := bf.x_drew b2
  have a4 := a4.x_drew b2
  have ac := ac.x_drew b2
  have a5 := a5.x_drew b2
  refine ⟨a0, a4.celli 1 rfl rfl, ?_⟩
  refine ⟨a7, ac.celli 3 rfl rfl, ?_⟩
  have h := h bh b8
  obtain ⟨hcs, hof, h⟩ := h
  refine ⟨hcs, Q01 fun ca b3 => ?_⟩
  replace h := Q0f h b3
  have a4 := a4.off (by rw [Q0a]; exact hof _ (by simp)) b3
  have ac := ac.off (by rw [Q0a]; exact hof _ (by simp)) b3
  have a5 := a5.off (by rw [Q0a]; exact hof _ (by simp)) b3
  refine ⟨ac.celli 3 rfl rfl, ?_⟩
  obtain ⟨hcs, hof, h⟩ := h
  refine ⟨hcs, Q01 fun ao b4 => ?_⟩
  replace h := Q0f h b4
  have a4 := a4.off (by rw [Q0a]; exact hof _ (by simp)) b4
  have a5 := a5.off (by rw [Q0a]; exact hof _ (by simp)) b4
  unfold Q0n.J1
  refine ⟨a0, a4.celli 1 rfl rfl, ?_⟩
  refine bif_fo (fun bj => ?_) (fun bj => ?_)
  ·have h := h.2 (Int.not_lt.1 (of_decide_eq_false bj))
   refine ⟨a3, a1, a2, a0, ⟨a4.celli 0 rfl rfl, a4.celli 1 rfl rfl, trivial⟩, ?_⟩
   have bs : Ext (fun b => b = a6.heap.size) ao ao := ((Ext.refl no ao)).none
   refine Q0g (k := 0) (j := 0) a5 (Nat.le_of_ble_eq_true rfl) fun ay bz c2 => ?_
   have br := bs.x_puts bz (.inl rfl)
   have a5 : Blk ay a6.heap.size 43 [.slice a3 a1 a2, .int .i64 a0] := c2
   refine ⟨a3, a1, a2, a0, ⟨a5.celli 0 rfl rfl, a5.celli 1 rfl rfl, trivial⟩, ?_⟩
   have h := h ay br
   exact h
  have h := h.1 (of_decide_eq_true bj)
  obtain ⟨hcs, hof, h⟩ := h
  refine ⟨hcs, Q01 fun aq b9 => ?_⟩
  replace h := Q0f h b9
  have a4 := a4.off (by rw [Q0a]; exact hof _ (by simp)) b9
  have a5 := a5.off (by rw [Q0a]; exact hof _ (by simp)) b9
  refine ⟨a3, a1, a2, a0, ⟨a4.celli 0 rfl rfl, a4.celli 1 rfl rfl, trivial⟩, ?_⟩
  have bn : Ext (fun b => b = a6.heap.size) aq aq := ((Ext.refl no aq)).none
  refine Q0g (k := 0) (j := 0) a5 (Nat.le_of_ble_eq_true rfl) fun ax c1 c5 => ?_
  have bk := bn.x_puts c1 (.inl rfl)
  have a5 : Blk ax a6.heap.size 43 [.slice a3 a1 a2, .int .i64 a0] := c5
  refine ⟨a3, a1, a2, a0, ⟨a5.celli 0 rfl rfl, a5.celli 1 rfl rfl, trivial⟩, ?_⟩
  have h := h ax bk
  exact h

theorem Q0n.go (ab : Option Addr) (ad ac : Nat) (a5 a7 aa a0 a4 : Int) (a1 : Option Addr) (a3 a2 : Nat) (a8 : Option Addr) (a9 a6 : Nat) {R : RW} {w : World} (h : Q0n.N ab ad ac a5 a7 aa a0 a4 a1 a3 a2 a8 a9 a6 R w) : Calls Try.prog 37 #[.agg #[.slice ab ad ac, .int .i64 a5], .agg #[.int .i64 a7, .int .i64 aa, .int .u64 a0, .int .i64 a4, .slice a1 a3 a2, .slice a8 a9 a6]] w fun e w' => ∃ v, e = .returned v ∧ R v w' := Q0n.ok ab ad ac a5 a7 aa a0 a4 a1 a3 a2 a8 a9 a6 (Q0n.up ab ad ac a5 a7 aa a0 a4 a1 a3 a2 a8 a9 a6 h)
abbrev Q0x.J1 (am ak : Addr) (R : RW) (ai : World) : Prop :=
 ∃ (ad : Option Addr) (ae af : Nat), ai.cell? (ak.add 0) = some (.slice ad ae af) ∧
 Calls Try.prog 67 #[.slice ad ae af] ai fun al ah => ∃ (a1 : Option Addr) (a4 a2 : Nat), al = .returned (.slice a1 a4 a2) ∧
 Q07 ah ((ak.add 0).add 0) ∧
 thenW (ah.setCell ((ak.add 0).add 0) (.slice a1 a4 a2)) fun aa =>
 ∃ (a5 : Int), aa.cell? (ak.add 1) = some (.int .i64 a5) ∧
 Q07 aa ((ak.add 1).add 0) ∧
 thenW (aa.setCell ((ak.add 1).add 0) (.int .i64 (IntKind.i64.wrap (a5 + 1)))) fun ag =>
 ∃ (ab : Option Addr) (ac a9 : Nat) (a3 : Int), cellsAt ag ak [.slice ab ac a9, .int .i64 a3] 0 ∧
 putsK ag am [.slice ab ac a9, .int .i64 a3] 0 fun aj =>
 ∃ (a6 : Option Addr) (a7 a8 : Nat) (a0 : Int), cellsAt aj am [.slice a6 a7 a8, .int .i64 a0] 0 ∧
 R (.tuple #[.agg #[.slice a6 a7 a8, .int .i64 a0], .int .i64 0]) aj

abbrev Q0x.J2 (ar av ay : Addr) (R : RW) (ax : World) : Prop :=
 thenW (ax.drew) fun ae =>
 ∃ (am : Option Addr) (ag an : Nat), ae.cell? (av.add 5) = some (.slice am ag an) ∧
 ∃ (a7 : Int), ae.cell? (ay.add 1) = some (.int .i64 a7) ∧
 bif !(((ag : Int) == 0) == (decide (a7 < 0))) then (
 putsK ae ar [.slice none 0 0, .int .i64 0] 0 fun ap =>
 ∃ (a9 : Option Addr) (ab ad : Nat) (a4 : Int), cellsAt ap ar [.slice a9 ab ad, .int .i64 a4] 0 ∧
 R (.tuple #[.agg #[.slice a9 ab ad, .int .i64 a4], .int .i64 10]) ap) else (
 ∃ (aj : Option Addr) (ak al : Nat) (a6 : Int), cellsAt ae ay [.slice aj ak al, .int .i64 a6] 0 ∧
 ∃ (a1 : Option Addr) (a0 a3 : Nat), ae.cell? (av.add 4) = some (.slice a1 a0 a3) ∧
 Calls Try.prog 29 #[.agg #[.slice aj ak al, .int .i64 a6]] ae fun aw ao => ∃ (ai : Option Addr) (af ah : Nat), aw = .returned (.slice ai af ah) ∧
 ao.cell? (av.add 4) = some (.slice a1 a0 a3) ∧
 Calls Try.prog 65 #[.slice ai af ah, .slice a1 a0 a3, .func (.func 66) #[] #[]] ao fun az aq => ∃ (a2 : Bool), az = .returned (.bool a2) ∧
 bif !a2 then (
 putsK aq ar [.slice none 0 0, .int .i64 0] 0 fun au =>
 ∃ (a8 : Option Addr) (ac aa : Nat) (a5 : Int), cellsAt au ar [.slice a8 ac aa, .int .i64 a5] 0 ∧
 R (.tuple #[.agg #[.slice a8 ac aa, .int .i64 a5], .int .i64 10]) au) else (
 Q0x.J1 ar ay R aq))

def Q0x.M (ak : Option Addr) (aj al : Nat) (ab ac ah a5 aa : Int) (a6 : Option Addr) (a8 a7 : Nat) (ag : Option Addr) (ad af : Nat) (R : RW) (w : World) : Prop :=
 thenW (w.alloc (.cells #[.slice ak aj al, .int .i64 ab] 43)) fun am =>
 thenW (am.alloc (.cells #[.int .i64 ac, .int .i64 ah, .int .u64 a5, .int .i64 aa, .slice a6 a8 a7, .slice ag ad af] 52)) fun a9 =>
 thenW (a9.alloc (.cells #[.slice none 0 0, .int .i64 0] 43)) fun ae =>
 ∃ (a2 : Int), ae.cell? ((blk w.heap.size).add 1) = some (.int .i64 a2) ∧
 bif decide ((IntKind.i64.wrap (a2 + 1)) ≥ 20) then (
 putsK ae (blk a9.heap.size) [.slice none 0 0, .int .i64 0] 0 fun ai =>
 ∃ (a4 : Option Addr) (a1 a3 : Nat) (a0 : Int), cellsAt ai (blk a9.heap.size) [.slice a4 a1 a3, .int .i64 a0] 0 ∧
 R (.tuple #[.agg #[.slice a4 a1 a3, .int .i64 a0], .int .i64 2]) ai) else (
 Q0x.J2 (blk a9.heap.size) (blk am.heap.size) (blk w.heap.size) R ae)

theorem Q0x.ok (ab : Option Addr) (ad ac : Nat) (a5 a7 aa a0 a4 : Int) (a1 : Option Addr) (a3 a2 : Nat) (a8 : Option Addr) (a9 a6 : Nat) {R : RW} {w : World} (h : Q0x.M ab ad ac a5 a7 aa a0 a4 a1 a3 a2 a8 a9 a6 R w) : Calls Try.prog 35 #[.agg #[.slice ab ad ac, .int .i64 a5], .agg #[.int .i64 a7, .int .i64 aa, .int .u64 a0, .int .i64 a4, .slice a1 a3 a2, .slice a8 a9 a6]] w fun e w' => ∃ v, e = .returned v ∧ R v w' :=
  Q0l follows (H := []) (args := [.agg #[.slice ab ad ac, .int .i64 a5], .agg #[.int .i64 a7, .int .i64 aa, .int .u64 a0, .int .i64 a4, .slice a1 a3 a2, .slice a8 a9 a6]]) (cast (by kernel_rfl) h)

def Q0x.N (aj : Option Addr) (ai an : Nat) (a0 ar az ag aq : Int) (a6 : Option Addr) (ab a7 : Nat) (ax : Option Addr) (a8 aw : Nat) (R : RW) (w : World) : Prop :=
 (-9223372036854775808 : Int) ≤ (a0 + 1) ∧ (a0 + 1) < 9223372036854775808 ∧
 ((a0 + 1) ≥ 20 →
 ∀ (ao : World), Ext no w ao →
 R (.tuple #[.agg #[.slice none 0 0, .int .i64 0], .int .i64 2]) ao) ∧
 ((a0 + 1) < 20 →
 (((a8 : Int) == 0) ≠ (decide (a0 < 0)) →
 ∀ (ap : World), Ext no w ap →
 R (.tuple #[.agg #[.slice none 0 0, .int .i64 0], .int .i64 10]) ap) ∧
 (((a8 : Int) == 0) = (decide (a0 < 0)) →
 ∀ (ac : World) (ah b0 af : Nat), Ext no w ac → Priv w ac [ah, b0, af] →
 Calls Try.prog 29 #[.agg #[.slice aj ai an, .int .i64 a0]] ac fun au ae => ∃ (a5 : Option Addr) (a9 aa : Nat), au = .returned (.slice a5 a9 aa) ∧
 Keep [ah, b0, af] ac ae ∧
 Calls Try.prog 65 #[.slice a5 a9 aa, .slice a6 ab a7, .func (.func 66) #[] #[]] ae fun ay ad => ∃ (a1 : Bool), ay = .returned (.bool a1) ∧
 Keep [ah, af] ae ad ∧
 (a1 = false →
 ∀ (am : World), Ext (fun b => b = af) ad am →
 R (.tuple #[.agg #[.slice none 0 0, .int .i64 0], .int .i64 10]) am) ∧
 (a1 = true →
 Calls Try.prog 67 #[.slice aj ai an] ad fun av al => ∃ (a4 : Option Addr) (a2 a3 : Nat), av = .returned (.slice a4 a2 a3) ∧
 Keep [ah, af] ad al ∧
 (-9223372036854775808 : Int) ≤ (a0 + 1) ∧ (a0 + 1) < 9223372036854775808 ∧
 ∀ (ak : World), Ext (fun b => b = af ∨ b = ah) al ak →
 R (.tuple #[.agg #[.slice a4 a2 a3, .int .i64 (a0 + 1)], .int .i64 0]) ak)))

theorem Q0x.up (ai : Option Addr) (al ak : Nat) (a0 ag am a9 af : Int) (a7 : Option Addr) (a6 a8 : Nat) (ac : Option Addr) (ae ad : Nat) {R : RW} {w : World} (h : Q0x.N ai al ak a0 ag am a9 af a7 a6 a8 ac ae ad R w) : Q0x.M ai al ak a0 ag am a9 af a7 a6 a8 ac ae ad R w := by
  unfold Q0x.M
  unfold Q0x.N at h
  refine Q01 fun c2 e9 => ?_
  have a3 := Blk.of_new e9
  have c1 := ((Ext.refl no w)).size
  have bn := (Ext.refl no w).x_alloc e9
  refine Q01 fun aa b9 => ?_
  have ah := Blk.of_new b9
  have bt := (bn).size
  have bo := Nat.ne_of_lt a3.lt
  have a3 := a3.x_alloc b9
  have b0 := bn.x_alloc b9
  refine Q01 fun c3 b1 => ?_
  have a4 := Blk.of_new b1
  have b6 := (b0).size
  have an := Nat.ne_of_lt a3.lt
  have a3 := a3.x_alloc b1
  have bp := Nat.ne_of_lt ah.lt
  have ah := ah.x_alloc b1
  have ay := b0.x_alloc b1
  refine ⟨a0, a3.celli 1 rfl rfl, ?_⟩
  obtain ⟨bm, bb, h⟩ := h
  try rw [w64 bm bb]
  refine bif_of (fun be => ?_) (fun be => ?_)
  ·have h := h.1 (of_decide_eq_true be)
   refine Q0g (k := 0) (j := 0) a4 (Nat.le_of_ble_eq_true rfl) fun ax bq bs => ?_
   have bd := ay.x_puts bq (.inr b6)
   have a4 : Blk ax aa.heap.size 43 [.slice none 0 0, .int .i64 0] := bs
   refine ⟨none, 0, 0, 0, ⟨a4.celli 0 rfl rfl, a4.celli 1 rfl rfl, trivial⟩, ?_⟩
   have h := h ax bd
   exact h
  have h := h.2 (Int.not_le.1 (of_decide_eq_false be))
  unfold Q0x.J2
  refine Q01 fun bh b2 => ?_
  have az := ay.x_drew b2
  have a3 := a3.x_drew b2
  have ah := ah.x_drew b2
  have a4 := a4.x_drew b2
  refine ⟨ac, ae, ad, ah.celli 5 rfl rfl, ?_⟩
  refine ⟨a0, a3.celli 1 rfl rfl, ?_⟩
  refine bif_of (fun b7 => ?_) (fun b7 => ?_)
  ·have h := h.1 (bbeq_f (not_t b7))
   refine Q0g (k := 0) (j := 0) a4 (Nat.le_of_ble_eq_true rfl) fun aw bu c0 => ?_
   have bl := az.x_puts bu (.inr b6)
   have a4 : Blk aw aa.heap.size 43 [.slice none 0 0, .int .i64 0] := c0
   refine ⟨none, 0, 0, 0, ⟨a4.celli 0 rfl rfl, a4.celli 1 rfl rfl, trivial⟩, ?_⟩
   have h := h aw bl
   exact h
  have h := h.2 (bbeq_t (not_f b7))
  refine ⟨ai, al, ak, a0, ⟨a3.celli 0 rfl rfl, a3.celli 1 rfl rfl, trivial⟩, ?_⟩
  refine ⟨a7, a6, a8, ah.celli 4 rfl rfl, ?_⟩
  have h := h bh (w.heap.size) (c2.heap.size) (aa.heap.size) az (Priv.cons c1 a3.lt (Priv.cons bt ah.lt (Priv.cons b6 a4.lt Priv.nil)))
  refine h.mono fun c4 bx h => ?_
  obtain ⟨ar, ao, ap, he, hk, h⟩ := h
  refine ⟨ar, ao, ap, he, ?_⟩
  have a3 := hk.blk a3 (by simp)
  have ah := hk.blk ah (by simp)
  have a4 := hk.blk a4 (by simp)
  refine ⟨ah.celli 4 rfl rfl, ?_⟩
  refine h.mono fun c7 aq h => ?_
  obtain ⟨ab, he, hk, h⟩ := h
  refine ⟨ab, he, ?_⟩
  have a3 := hk.blk a3 (by simp)
  have a4 := hk.blk a4 (by simp)
  refine bif_of (fun ba => ?_) (fun ba => ?_)
  ·have h := h.1 (not_t ba)
   have bf : Ext (fun b => b = aa.heap.size) aq aq := ((Ext.refl no aq)).none
   refine Q0g (k := 0) (j := 0) a4 (Nat.le_of_ble_eq_true rfl) fun av bz bw => ?_
   have bi := bf.x_puts bz (.inl rfl)
   have a4 : Blk av aa.heap.size 43 [.slice none 0 0, .int .i64 0] := bw
   refine ⟨none, 0, 0, 0, ⟨a4.celli 0 rfl rfl, a4.celli 1 rfl rfl, trivial⟩, ?_⟩
   have h := h av bi
   exact h
  have h := h.2 (not_f ba)
  unfold Q0x.J1
  refine ⟨ai, al, ak, a3.celli 0 rfl rfl, ?_⟩
  refine h.mono fun bv aj h => ?_
  obtain ⟨a5, a1, a2, he, hk, h⟩ := h
  refine ⟨a5, a1, a2, he, ?_⟩
  have a3 := hk.blk a3 (by simp)
  have a4 := hk.blk a4 (by simp)
  have bk : Ext (fun b => b = w.heap.size) aj aj := ((Ext.refl no aj)).none
  refine ⟨a3.cani 0 rfl rfl, Q01 fun c5 b8 => ?_⟩
  have bj := bk.x_set (q := w.heap.size) (i := 0) rfl (.inl rfl) b8
  have a3 := a3.seti 0 rfl b8
  have a4 := a4.oth (q := w.heap.size) (i := 0) rfl (Ne.symm an) b8
  refine ⟨a0, a3.celli 1 rfl rfl, ?_⟩
  obtain ⟨bm, bb, h⟩ := h
  try rw [w64 bm bb]
  refine ⟨a3.cani 1 rfl rfl, Q01 fun bg bc => ?_⟩
  have b3 := bj.x_set (q := w.heap.size) (i := 1) rfl (.inl rfl) bc
  have a3 := a3.seti 1 rfl bc
  have a4 := a4.oth (q := w.heap.size) (i := 1) rfl (Ne.symm an) bc
  refine ⟨a5, a1, a2, (a0 + 1), ⟨a3.celli 0 rfl rfl, a3.celli 1 rfl rfl, trivial⟩, ?_⟩
  have b5 : Ext (fun b => b = aa.heap.size ∨ b = w.heap.size) aj bg := (b3).mono fun _ h _ => .inr h
  refine Q0g (k := 0) (j := 0) a4 (Nat.le_of_ble_eq_true rfl) fun au br c6 => ?_
  have b4 := b5.x_puts br (.inl (.inl rfl))
  have a4 : Blk au aa.heap.size 43 [.slice a5 a1 a2, .int .i64 (a0 + 1)] := c6
  refine ⟨a5, a1, a2, (a0 + 1), ⟨a4.celli 0 rfl rfl, a4.celli 1 rfl rfl, trivial⟩, ?_⟩
  have h := h au b4
  exact h

theorem Q0x.go (ab : Option Addr) (ad ac : Nat) (a5 a7 aa a0 a4 : Int) (a1 : Option Addr) (a3 a2 : Nat) (a8 : Option Addr) (a9 a6 : Nat) {R : RW} {w : World} (h : Q0x.N ab ad ac a5 a7 aa a0 a4 a1 a3 a2 a8 a9 a6 R w) : Calls Try.prog 35 #[.agg #[.slice ab ad ac, .int .i64 a5], .agg #[.int .i64 a7, .int .i64 aa, .int .u64 a0, .int .i64 a4, .slice a1 a3 a2, .slice a8 a9 a6]] w fun e w' => ∃ v, e = .returned v ∧ R v w' := Q0x.ok ab ad ac a5 a7 aa a0 a4 a1 a3 a2 a8 a9 a6 (Q0x.up ab ad ac a5 a7 aa a0 a4 a1 a3 a2 a8 a9 a6 h)
abbrev Q0L.J1 (aq : Option Addr) (ao ap : Nat) (au : Int) (an ar : Addr) (R : RW) (aj : World) : Prop :=
 ∃ (a9 af a2 a5 : Int) (a3 : Option Addr) (a4 a1 : Nat) (ab : Option Addr) (ac ae : Nat), cellsAt aj ar [.int .i64 a9, .int .i64 af, .int .u64 a2, .int .i64 a5, .slice a3 a4 a1, .slice ab ac ae] 0 ∧
 Calls Try.prog 36 #[.agg #[.slice aq ao ap, .int .i64 au], .agg #[.int .i64 a9, .int .i64 af, .int .u64 a2, .int .i64 a5, .slice a3 a4 a1, .slice ab ac ae]] aj fun am al => ∃ (ak : Option Addr) (ag ah : Nat) (a7 a6 : Int), am = .returned (.tuple #[.agg #[.slice ak ag ah, .int .i64 a7], .int .i64 a6]) ∧
 putsK al an [.slice ak ag ah, .int .i64 a7] 0 fun ai =>
 ∃ (aa : Option Addr) (a8 ad : Nat) (a0 : Int), cellsAt ai an [.slice aa a8 ad, .int .i64 a0] 0 ∧
 R (.tuple #[.agg #[.slice aa a8 ad, .int .i64 a0], .int .i64 a6]) ai

abbrev Q0L.J2 (ar : Option Addr) (aq ap : Nat) (au : Int) (al ao : Addr) (R : RW) (ai : World) : Prop :=
 ∃ (ab af a4 a6 : Int) (a3 : Option Addr) (a1 a2 : Nat) (a8 : Option Addr) (aa ad : Nat), cellsAt ai ao [.int .i64 ab, .int .i64 af, .int .u64 a4, .int .i64 a6, .slice a3 a1 a2, .slice a8 aa ad] 0 ∧
 Calls Try.prog 37 #[.agg #[.slice ar aq ap, .int .i64 au], .agg #[.int .i64 ab, .int .i64 af, .int .u64 a4, .int .i64 a6, .slice a3 a1 a2, .slice a8 aa ad]] ai fun an am => ∃ (ah : Option Addr) (ak ag : Nat) (a9 a5 : Int), an = .returned (.tuple #[.agg #[.slice ah ak ag, .int .i64 a9], .int .i64 a5]) ∧
 putsK am al [.slice ah ak ag, .int .i64 a9] 0 fun aj =>
 ∃ (a7 : Option Addr) (ac ae : Nat) (a0 : Int), cellsAt aj al [.slice a7 ac ae, .int .i64 a0] 0 ∧
 R (.tuple #[.agg #[.slice a7 ac ae, .int .i64 a0], .int .i64 a5]) aj

abbrev Q0L.J3 (ar : Option Addr) (au ao : Nat) (ap : Int) (al aq : Addr) (R : RW) (ak : World) : Prop :=
 ∃ (ae af a1 a5 : Int) (a2 : Option Addr) (a4 a3 : Nat) (ac : Option Addr) (a7 ab : Nat), cellsAt ak aq [.int .i64 ae, .int .i64 af, .int .u64 a1, .int .i64 a5, .slice a2 a4 a3, .slice ac a7 ab] 0 ∧
 Calls Try.prog 35 #[.agg #[.slice ar au ao, .int .i64 ap], .agg #[.int .i64 ae, .int .i64 af, .int .u64 a1, .int .i64 a5, .slice a2 a4 a3, .slice ac a7 ab]] ak fun an am => ∃ (aj : Option Addr) (ah ag : Nat) (aa a6 : Int), an = .returned (.tuple #[.agg #[.slice aj ah ag, .int .i64 aa], .int .i64 a6]) ∧
 putsK am al [.slice aj ah ag, .int .i64 aa] 0 fun ai =>
 ∃ (a8 : Option Addr) (ad a9 : Nat) (a0 : Int), cellsAt ai al [.slice a8 ad a9, .int .i64 a0] 0 ∧
 R (.tuple #[.agg #[.slice a8 ad a9, .int .i64 a0], .int .i64 a6]) ai

abbrev Q0L.J4 (af ae ag : Addr) (R : RW) (a3 : World) : Prop :=
 ∃ (a9 : Option Addr) (aa a8 : Nat) (a1 : Int), cellsAt a3 ag [.slice a9 aa a8, .int .i64 a1] 0 ∧
 ∃ (a4 : Int), a3.cell? (ae.add 0) = some (.int .i64 a4) ∧
 bif a4 == 1 then (
 ∃ (ab : Option Addr) (ac ad : Nat) (a2 : Int), cellsAt a3 ag [.slice ab ac ad, .int .i64 a2] 0 ∧
 Q0L.J1 ab ac ad a2 af ae R a3) else (
 bif a4 == 2 then (
 ∃ (a6 : Option Addr) (a5 a7 : Nat) (a0 : Int), cellsAt a3 ag [.slice a6 a5 a7, .int .i64 a0] 0 ∧
 Q0L.J2 a6 a5 a7 a0 af ae R a3) else (
 Q0L.J3 a9 aa a8 a1 af ae R a3))

def Q0L.M (ay : Option Addr) (ax b0 : Nat) (al am ar ae ak : Int) (af : Option Addr) (ai ag : Nat) (ap : Option Addr) (an ao : Nat) (R : RW) (w : World) : Prop :=
 thenW (w.alloc (.cells #[.slice ay ax b0, .int .i64 al] 43)) fun aw =>
 thenW (aw.alloc (.cells #[.int .i64 am, .int .i64 ar, .int .u64 ae, .int .i64 ak, .slice af ai ag, .slice ap an ao] 52)) fun aj =>
 thenW (aj.alloc (.cells #[.slice none 0 0, .int .i64 0] 43)) fun aq =>
 ∃ (a6 ah a4 a5 : Int) (a1 : Option Addr) (a2 a3 : Nat) (ad : Option Addr) (aa ab : Nat), cellsAt aq (blk aw.heap.size) [.int .i64 a6, .int .i64 ah, .int .u64 a4, .int .i64 a5, .slice a1 a2 a3, .slice ad aa ab] 0 ∧
 Calls Try.prog 34 #[.agg #[.int .i64 a6, .int .i64 ah, .int .u64 a4, .int .i64 a5, .slice a1 a2 a3, .slice ad aa ab]] aq fun az av => ∃ (a9 : Bool), az = .returned (.bool a9) ∧
 bif !a9 then (
 putsK av (blk aj.heap.size) [.slice none 0 0, .int .i64 0] 0 fun au =>
 ∃ (ac : Option Addr) (a8 a7 : Nat) (a0 : Int), cellsAt au (blk aj.heap.size) [.slice ac a8 a7, .int .i64 a0] 0 ∧
 R (.tuple #[.agg #[.slice ac a8 a7, .int .i64 a0], .int .i64 1]) au) else (
 Q0L.J4 (blk aj.heap.size) (blk aw.heap.size) (blk w.heap.size) R av)

theorem Q0L.ok (ab : Option Addr) (ad ac : Nat) (a5 a7 aa a0 a4 : Int) (a1 : Option Addr) (a3 a2 : Nat) (a8 : Option Addr) (a9 a6 : Nat) {R : RW} {w : World} (h : Q0L.M ab ad ac a5 a7 aa a0 a4 a1 a3 a2 a8 a9 a6 R w) : Calls Try.prog 10 #[.agg #[.slice ab ad ac, .int .i64 a5], .agg #[.int .i64 a7, .int .i64 aa, .int .u64 a0, .int .i64 a4, .slice a1 a3 a2, .slice a8 a9 a6]] w fun e w' => ∃ v, e = .returned v ∧ R v w' :=
  Q0l follows (H := []) (args := [.agg #[.slice ab ad ac, .int .i64 a5], .agg #[.int .i64 a7, .int .i64 aa, .int .u64 a0, .int .i64 a4, .slice a1 a3 a2, .slice a8 a9 a6]]) (cast (by kernel_rfl) h)

def Q0L.N (am : Option Addr) (al an : Nat) (a7 a0 ag a1 a5 : Int) (a2 : Option Addr) (a4 a3 : Nat) (aa : Option Addr) (a6 a9 : Nat) (R : RW) (w : World) : Prop :=
 ∀ (aj : World) (bb ba ak : Nat), Ext no w aj → Priv w aj [bb, ba, ak] →
 Calls Try.prog 34 #[.agg #[.int .i64 a0, .int .i64 ag, .int .u64 a1, .int .i64 a5, .slice a2 a4 a3, .slice aa a6 a9]] aj fun b8 ad => ∃ (a8 : Bool), b8 = .returned (.bool a8) ∧
 Keep [bb, ba, ak] aj ad ∧
 (a8 = false →
 ∀ (b4 : World), Ext (fun b => b = ak) ad b4 →
 R (.tuple #[.agg #[.slice none 0 0, .int .i64 0], .int .i64 1]) b4) ∧
 (a8 = true →
 (a0 = 1 →
 Calls Try.prog 36 #[.agg #[.slice am al an, .int .i64 a7], .agg #[.int .i64 a0, .int .i64 ag, .int .u64 a1, .int .i64 a5, .slice a2 a4 a3, .slice aa a6 a9]] ad fun b9 ax => ∃ (aw : Option Addr) (ao aq : Nat) (ai ab : Int), b9 = .returned (.tuple #[.agg #[.slice aw ao aq, .int .i64 ai], .int .i64 ab]) ∧
 Keep [ak] ad ax ∧
 ∀ (az : World), Ext (fun b => b = ak) ax az →
 R (.tuple #[.agg #[.slice aw ao aq, .int .i64 ai], .int .i64 ab]) az) ∧
 (a0 ≠ 1 →
 (a0 = 2 →
 Calls Try.prog 37 #[.agg #[.slice am al an, .int .i64 a7], .agg #[.int .i64 a0, .int .i64 ag, .int .u64 a1, .int .i64 a5, .slice a2 a4 a3, .slice aa a6 a9]] ad fun b6 ar => ∃ (b5 : Option Addr) (b2 ap : Nat) (af ac : Int), b6 = .returned (.tuple #[.agg #[.slice b5 b2 ap, .int .i64 af], .int .i64 ac]) ∧
 Keep [ak] ad ar ∧
 ∀ (b0 : World), Ext (fun b => b = ak) ar b0 →
 R (.tuple #[.agg #[.slice b5 b2 ap, .int .i64 af], .int .i64 ac]) b0) ∧
 (a0 ≠ 2 →
 Calls Try.prog 35 #[.agg #[.slice am al an, .int .i64 a7], .agg #[.int .i64 a0, .int .i64 ag, .int .u64 a1, .int .i64 a5, .slice a2 a4 a3, .slice aa a6 a9]] ad fun b7 b3 => ∃ (b1 : Option Addr) (au ay : Nat) (ah ae : Int), b7 = .returned (.tuple #[.agg #[.slice b1 au ay, .int .i64 ah], .int .i64 ae]) ∧
 Keep [ak] ad b3 ∧
 ∀ (av : World), Ext (fun b => b = ak) b3 av →
 R (.tuple #[.agg #[.slice b1 au ay, .int .i64 ah], .int .i64 ae]) av)))

theorem Q0L.up (ai : Option Addr) (ah aj : Nat) (a3 a6 ad a0 a5 : Int) (a1 : Option Addr) (a4 a2 : Nat) (aa : Option Addr) (a7 a9 : Nat) {R : RW} {w : World} (h : Q0L.N ai ah aj a3 a6 ad a0 a5 a1 a4 a2 aa a7 a9 R w) : Q0L.M ai ah aj a3 a6 ad a0 a5 a1 a4 a2 aa a7 a9 R w := by
  unfold Q0L.M
  unfold Q0L.N at h
  refine Q01 fun ba e9 => ?_
  have ac := Blk.of_new e9
  have bi := ((Ext.refl no w)).size
  have b7 := (Ext.refl no w).x_alloc e9
  refine Q01 fun ag b1 => ?_
  have a8 := Blk.of_new b1
  have bb := (b7).size
  have b8 := Nat.ne_of_lt ac.lt
  have ac := ac.x_alloc b1
  have au := b7.x_alloc b1
  refine Q01 fun ay av => ?_
  have ae := Blk.of_new av
  have bj := (au).size
  have b6 := Nat.ne_of_lt ac.lt
  have ac := ac.x_alloc av
  have b9 := Nat.ne_of_lt a8.lt
  have a8 := a8.x_alloc av
  have aw := au.x_alloc av
  refine ⟨a6, ad, a0, a5, a1, a4, a2, aa, a7, a9, ⟨a8.celli 0 rfl rfl, a8.celli 1 rfl rfl, a8.celli 2 rfl rfl, a8.celli 3 rfl rfl, a8.celli 4 rfl rfl, a8.celli 5 rfl rfl, trivial⟩, ?_⟩
  have h := h ay (w.heap.size) (ba.heap.size) (ag.heap.size) aw (Priv.cons bi ac.lt (Priv.cons bb a8.lt (Priv.cons bj ae.lt Priv.nil)))
  refine h.mono fun be an h => ?_
  obtain ⟨ak, he, hk, h⟩ := h
  refine ⟨ak, he, ?_⟩
  have ac := hk.blk ac (by simp)
  have a8 := hk.blk a8 (by simp)
  have ae := hk.blk ae (by simp)
  refine bif_of (fun b0 => ?_) (fun b0 => ?_)
  ·have h := h.1 (not_t b0)
   have ax : Ext (fun b => b = ag.heap.size) an an := ((Ext.refl no an)).none
   refine Q0g (k := 0) (j := 0) ae (Nat.le_of_ble_eq_true rfl) fun ar bc bg => ?_
   have b2 := ax.x_puts bc (.inl rfl)
   have ae : Blk ar ag.heap.size 43 [.slice none 0 0, .int .i64 0] := bg
   refine ⟨none, 0, 0, 0, ⟨ae.celli 0 rfl rfl, ae.celli 1 rfl rfl, trivial⟩, ?_⟩
   have h := h ar b2
   exact h
  have h := h.2 (not_f b0)
  unfold Q0L.J4
  refine ⟨ai, ah, aj, a3, ⟨ac.celli 0 rfl rfl, ac.celli 1 rfl rfl, trivial⟩, ?_⟩
  refine ⟨a6, a8.celli 0 rfl rfl, ?_⟩
  refine bif_of (fun b3 => ?_) (fun b3 => ?_)
  have h := h.1 (beq_t b3)
  refine ⟨ai, ah, aj, a3, ⟨ac.celli 0 rfl rfl, ac.celli 1 rfl rfl, trivial⟩, ?_⟩
  rotate_left
  focus
   have h := h.2 (beq_f b3)
   refine bif_of (fun b4 => ?_) (fun b4 => ?_)
   have h := h.1 (beq_t b4)
   refine ⟨ai, ah, aj, a3, ⟨ac.celli 0 rfl rfl, ac.celli 1 rfl rfl, trivial⟩, ?_⟩
   rotate_left
   have h := h.2 (beq_f b4)
   rotate_left
  rotate_left 2
  all_goals
   first | unfold Q0L.J1 | unfold Q0L.J2 | unfold Q0L.J3
   refine ⟨a6, ad, a0, a5, a1, a4, a2, aa, a7, a9, ⟨a8.celli 0 rfl rfl, a8.celli 1 rfl rfl, a8.celli 2 rfl rfl, a8.celli 3 rfl rfl, a8.celli 4 rfl rfl, a8.celli 5 rfl rfl, trivial⟩, ?_⟩
   refine h.mono fun bh ap h => ?_
   obtain ⟨ao, al, am, ab, af, he, hk, h⟩ := h
   refine ⟨ao, al, am, ab, af, he, ?_⟩
   have ae := hk.blk ae (by simp)
   have az : Ext (fun b => b = ag.heap.size) ap ap := ((Ext.refl no ap)).none
   refine Q0g (k := 0) (j := 0) ae (Nat.le_of_ble_eq_true rfl) fun aq bd bf => ?_
   have b5 := az.x_puts bd (.inl rfl)
   have ae : Blk aq ag.heap.size 43 [.slice ao al am, .int .i64 ab] := bf
   refine ⟨ao, al, am, ab, ⟨ae.celli 0 rfl rfl, ae.celli 1 rfl rfl, trivial⟩, ?_⟩
   have h := h aq b5
   exact h

theorem Q0L.go (ab : Option Addr) (ad ac : Nat) (a5 a7 aa a0 a4 : Int) (a1 : Option Addr) (a3 a2 : Nat) (a8 : Option Addr) (a9 a6 : Nat) {R : RW} {w : World} (h : Q0L.N ab ad ac a5 a7 aa a0 a4 a1 a3 a2 a8 a9 a6 R w) : Calls Try.prog 10 #[.agg #[.slice ab ad ac, .int .i64 a5], .agg #[.int .i64 a7, .int .i64 aa, .int .u64 a0, .int .i64 a4, .slice a1 a3 a2, .slice a8 a9 a6]] w fun e w' => ∃ v, e = .returned v ∧ R v w' := Q0L.ok ab ad ac a5 a7 aa a0 a4 a1 a3 a2 a8 a9 a6 (Q0L.up ab ad ac a5 a7 aa a0 a4 a1 a3 a2 a8 a9 a6 h)
abbrev Q14.J1 (al : Option Addr) (ak ao : Nat) (ac : Int) (I0 : Nat → List Value → World → Prop) (ap : Option Addr) (aq m8 : Nat) (R : RW) (a6 : World) : Prop :=
 ap.elim False fun ar =>
 0 ≤ (ac : Int) ∧ (ac : Int) < (aq : Int) ∧
 ∃ (a9 a0 a5 aa a2 : Int), cellsAt a6 (ar.add (Int.toNat ac * 5)) [.int .i64 a9, .int .u64 a0, .int .i64 a5, .int .i64 aa, .int .i64 a2] 0 ∧
 thenW (a6.alloc (.cells #[.int .i64 0, .int .u64 0, .int .i64 0, .int .i64 0, .int .i64 0] 70)) fun ai =>
 putsK ai (blk a6.heap.size) [.int .i64 a9, .int .u64 a0, .int .i64 a5, .int .i64 aa, .int .i64 a2] 0 fun a7 =>
 ∃ (af : Int), a7.cell? ((blk a6.heap.size).add 3) = some (.int .i64 af) ∧
 bif af == (-1) then (
 ∃ (a8 a1 a4 ab a3 : Int), cellsAt a7 (blk a6.heap.size) [.int .i64 a8, .int .u64 a1, .int .i64 a4, .int .i64 ab, .int .i64 a3] 0 ∧
 thenW (a7.alloc (.cells #[.int .i64 a8, .int .u64 a1, .int .i64 a4, .int .i64 ab, .int .i64 a3] 70)) fun aj =>
 ∃ (ad : Option Addr) (ag ah : Nat) (ae : World), (Builtin.append_ #[41, 41] 41 #[.slice al ak ao, .slice (some (blk a7.heap.size)) 1 1]).run Try.prog aj = .ok (.slice ad ag ah) ae ∧
 ∃ am, am < m8 ∧ I0 am [.slice ad ag ah, .int .i64 (IntKind.i64.wrap (ac + 1))] ae) else (
 ∃ an, an < m8 ∧ I0 an [.slice al ak ao, .int .i64 (IntKind.i64.wrap (ac + 1))] a7)

def Q14.M (a4 : Option Addr) (a7 a5 : Nat) (a3 : Int) (R : RW) (w : World) : Prop :=
 thenW (w.alloc (.cells #[.slice a4 a7 a5, .int .i64 a3] 43)) fun a9 =>
 ∃ (aa : Option Addr) (a8 ab : Nat), a9.cell? ((blk w.heap.size).add 0) = some (.slice aa a8 ab) ∧
 ∃ (I0 : Nat → List Value → World → Prop) (m7 : Nat), I0 m7 [.slice none 0 0, .int .i64 0] a9 ∧ ∀ (m8 : Nat) (a6 : World) (a2 : Option Addr) (a0 a1 : Nat) (t6 : Int), I0 m8 [.slice a2 a0 a1, .int .i64 t6] a6 →
 bif decide (t6 < (a8 : Int)) then (
 Q14.J1 a2 a0 a1 t6 I0 aa a8 m8 R a6) else (
 R (.slice a2 a0 a1) a6)

theorem Q14.ok (a2 : Option Addr) (a3 a1 : Nat) (a0 : Int) {R : RW} {w : World} (h : Q14.M a2 a3 a1 a0 R w) : Calls Try.prog 29 #[.agg #[.slice a2 a3 a1, .int .i64 a0]] w fun e w' => ∃ v, e = .returned v ∧ R v w' :=
  Q0l follows (H := [(0, [6, 7], [(2, (.one .slice)), (8, (.one (.int .i64)))])]) (args := [.agg #[.slice a2 a3 a1, .int .i64 a0]]) (cast (by kernel_rfl) h)

def Q14.N (ai : Option Addr) (a9 an : Nat) (ag : Int) (R : RW) (w : World) : Prop :=
 ∀ (aj : World), Ext no w aj →
 ∃ (I0 : Nat → List Value → World → Prop) (m7 : Nat), I0 m7 [.slice none 0 0, .int .i64 0] aj ∧ ∀ (m8 : Nat) (aa : World) (a2 : Option Addr) (a1 a3 : Nat) (t6 : Int), I0 m8 [.slice a2 a1 a3, .int .i64 t6] aa →
 (t6 < (a9 : Int) →
 ∃ ak : Addr, ai = some ak ∧
 0 ≤ (t6 : Int) ∧ (t6 : Int) < (a9 : Int) ∧
 ∃ (a7 a0 a5 a6 a4 : Int), cellsAt aa (ak.add (Int.toNat t6 * 5)) [.int .i64 a7, .int .u64 a0, .int .i64 a5, .int .i64 a6, .int .i64 a4] 0 ∧
 (a6 = (-1) →
 ∀ (a8 : World) (ah : Nat), Ext no aa a8 → Blk a8 ah 70 [.int .i64 a7, .int .u64 a0, .int .i64 a5, .int .i64 a6, .int .i64 a4] → aa.heap.size ≤ ah → ah < a8.heap.size →
 ∃ (ac : Option Addr) (af ab : Nat) (ad : World), (Builtin.append_ #[41, 41] 41 #[.slice a2 a1 a3, .slice (some (blk ah)) 1 1]).run Try.prog a8 = .ok (.slice ac af ab) ad ∧
 (-9223372036854775808 : Int) ≤ (t6 + 1) ∧ (t6 + 1) < 9223372036854775808 ∧
 ∃ al, al < m8 ∧ I0 al [.slice ac af ab, .int .i64 (t6 + 1)] ad) ∧
 (a6 ≠ (-1) →
 (-9223372036854775808 : Int) ≤ (t6 + 1) ∧ (t6 + 1) < 9223372036854775808 ∧
 ∀ (ae : World), Ext no aa ae →
 ∃ am, am < m8 ∧ I0 am [.slice a2 a1 a3, .int .i64 (t6 + 1)] ae)) ∧
 ((a9 : Int) ≤ t6 →
 R (.slice a2 a1 a3) aa)

theorem Q14.up (a9 : Option Addr) (a8 ac : Nat) (a4 : Int) {R : RW} {w : World} (h : Q14.N a9 a8 ac a4 R w) : Q14.M a9 a8 ac a4 R w := by
  unfold Q14.M
  unfold Q14.N at h
  refine Q01 fun aw e3 => ?_
  have b4 := Blk.of_new e3
  have b8 := ((Ext.refl no w)).size
  have b0 := (Ext.refl no w).x_alloc e3
  refine ⟨a9, a8, ac, b4.celli 0 rfl rfl, ?_⟩
  have h := h aw b0
  obtain ⟨I0, m7, h0, h⟩ := h
  refine ⟨I0, m7, h0, fun m8 af ab a7 ae t6 hI => ?_⟩
  have h := h m8 af ab a7 ae t6 hI
  refine bif_fo (fun ak => ?_) (fun ak => ?_)
  ·have h := h.2 (Int.not_lt.1 (of_decide_eq_false ak))
   exact h
  have h := h.1 (of_decide_eq_true ak)
  unfold Q14.J1
  obtain ⟨b7, au, h⟩ := h
  refine Q03 au ?_
  obtain ⟨ay, b3, h⟩ := h
  refine ⟨ay, b3, ?_⟩
  obtain ⟨a3, a0, a2, a5, a1, aj, h⟩ := h
  refine ⟨a3, a0, a2, a5, a1, aj, ?_⟩
  refine Q01 fun ax av => ?_
  have a6 := Blk.of_new av
  have az := ((Ext.refl no af)).size
  have ar := (Ext.refl no af).x_alloc av
  refine Q0g (k := 0) (j := 0) a6 (Nat.le_of_ble_eq_true rfl) fun ad b1 b2 => ?_
  have aa := ar.x_puts b1 (.inr az)
  have a6 : Blk ad af.heap.size 70 [.int .i64 a3, .int .u64 a0, .int .i64 a2, .int .i64 a5, .int .i64 a1] := b2
  refine ⟨a5, a6.celli 3 rfl rfl, ?_⟩
  refine bif_fo (fun ao => ?_) (fun ao => ?_)
  ·have h := h.2 (beq_f ao)
   obtain ⟨an, ap, h⟩ := h
   try rw [w64 an ap]
   have h := h ad aa
   obtain ⟨b6, hk, h⟩ := h
   exact ⟨b6, hk, h⟩
  have h := h.1 (beq_t ao)
  refine ⟨a3, a0, a2, a5, a1, ⟨a6.celli 0 rfl rfl, a6.celli 1 rfl rfl, a6.celli 2 rfl rfl, a6.celli 3 rfl rfl, a6.celli 4 rfl rfl, trivial⟩, ?_⟩
  refine Q01 fun am ah => ?_
  have h := h am ad.heap.size (aa.x_alloc ah) (Blk.of_new ah) (aa).size (Q0w ah)
  obtain ⟨ai, aq, ag, al, hr, h⟩ := h
  refine ⟨ai, aq, ag, al, hr, ?_⟩
  obtain ⟨an, ap, h⟩ := h
  try rw [w64 an ap]
  obtain ⟨b5, hk, h⟩ := h
  exact ⟨b5, hk, h⟩

theorem Q14.go (a2 : Option Addr) (a3 a1 : Nat) (a0 : Int) {R : RW} {w : World} (h : Q14.N a2 a3 a1 a0 R w) : Calls Try.prog 29 #[.agg #[.slice a2 a3 a1, .int .i64 a0]] w fun e w' => ∃ v, e = .returned v ∧ R v w' := Q14.ok a2 a3 a1 a0 (Q14.up a2 a3 a1 a0 h)
def Q05.M (av : Option Addr) (al ax : Nat) (a2 : Int) (a5 : Nat) (ac ab : Array Value) (R : RW) (w : World) : Prop :=
 ∃ (I0 : Nat → List Value → World → Prop) (m6 : Nat), I0 m6 [.int .i64 0, .int .i64 (al : Int)] w ∧ ∀ (m7 : Nat) (af : World) (i4 j5 : Int), I0 m7 [.int .i64 i4, .int .i64 j5] af →
 bif decide (i4 < j5) then (
 0 ≤ (1 : Int) ∧
 av.elim False fun a9 =>
 0 ≤ ((IntKind.i64.wrap (Int.fdiv (IntKind.u64.wrap (IntKind.i64.wrap (i4 + j5))) (2 ^ (min (Int.toNat 1) (IntKind.bits .u64))))) : Int) ∧ ((IntKind.i64.wrap (Int.fdiv (IntKind.u64.wrap (IntKind.i64.wrap (i4 + j5))) (2 ^ (min (Int.toNat 1) (IntKind.bits .u64))))) : Int) < (al : Int) ∧
 ∃ (aa a1 a6 ae a3 : Int), cellsAt af (a9.add (Int.toNat (IntKind.i64.wrap (Int.fdiv (IntKind.u64.wrap (IntKind.i64.wrap (i4 + j5))) (2 ^ (min (Int.toNat 1) (IntKind.bits .u64))))) * 5)) [.int .i64 aa, .int .u64 a1, .int .i64 a6, .int .i64 ae, .int .i64 a3] 0 ∧
 bif enters Try.prog a5 then Calls Try.prog a5 (ac.toList ++ ([.agg #[.int .i64 aa, .int .u64 a1, .int .i64 a6, .int .i64 ae, .int .i64 a3], .int .i64 a2] : List Value) ++ ab.toList).toArray af (fun an ah => ∃ (aj : Int), an = .returned (.int .i64 aj) ∧
 bif decide (aj < 0) then (
 ∃ ap, ap < m7 ∧ I0 ap [.int .i64 (IntKind.i64.wrap ((IntKind.i64.wrap (Int.fdiv (IntKind.u64.wrap (IntKind.i64.wrap (i4 + j5))) (2 ^ (min (Int.toNat 1) (IntKind.bits .u64))))) + 1)), .int .i64 j5] ah) else (
 ∃ ar, ar < m7 ∧ I0 ar [.int .i64 i4, .int .i64 (IntKind.i64.wrap (Int.fdiv (IntKind.u64.wrap (IntKind.i64.wrap (i4 + j5))) (2 ^ (min (Int.toNat 1) (IntKind.bits .u64)))))] ah)) else (∃ (aj : Int) (ag : World), (Q1f a5 (ac.toList ++ ([.agg #[.int .i64 aa, .int .u64 a1, .int .i64 a6, .int .i64 ae, .int .i64 a3], .int .i64 a2] : List Value) ++ ab.toList).toArray).run Try.prog af = .ok (.int .i64 aj) ag ∧
 bif decide (aj < 0) then (
 ∃ au, au < m7 ∧ I0 au [.int .i64 (IntKind.i64.wrap ((IntKind.i64.wrap (Int.fdiv (IntKind.u64.wrap (IntKind.i64.wrap (i4 + j5))) (2 ^ (min (Int.toNat 1) (IntKind.bits .u64))))) + 1)), .int .i64 j5] ag) else (
 ∃ aq, aq < m7 ∧ I0 aq [.int .i64 i4, .int .i64 (IntKind.i64.wrap (Int.fdiv (IntKind.u64.wrap (IntKind.i64.wrap (i4 + j5))) (2 ^ (min (Int.toNat 1) (IntKind.bits .u64)))))] ag))) else (
 bif decide (i4 < (al : Int)) then (
 av.elim False fun aw =>
 0 ≤ (i4 : Int) ∧ (i4 : Int) < (al : Int) ∧
 ∃ (a8 a0 a7 ad a4 : Int), cellsAt af (aw.add (Int.toNat i4 * 5)) [.int .i64 a8, .int .u64 a0, .int .i64 a7, .int .i64 ad, .int .i64 a4] 0 ∧
 bif enters Try.prog a5 then Calls Try.prog a5 (ac.toList ++ ([.agg #[.int .i64 a8, .int .u64 a0, .int .i64 a7, .int .i64 ad, .int .i64 a4], .int .i64 a2] : List Value) ++ ab.toList).toArray af (fun ao am => ∃ (ak : Int), ao = .returned (.int .i64 ak) ∧
 R (.tuple #[.int .i64 i4, .bool (ak == 0)]) am) else (∃ (ak : Int) (ai : World), (Q1f a5 (ac.toList ++ ([.agg #[.int .i64 a8, .int .u64 a0, .int .i64 a7, .int .i64 ad, .int .i64 a4], .int .i64 a2] : List Value) ++ ab.toList).toArray).run Try.prog af = .ok (.int .i64 ak) ai ∧
 R (.tuple #[.int .i64 i4, .bool (ak == 0)]) ai)) else (
 R (.tuple #[.int .i64 i4, .bool false]) af))

theorem Q05.ok (a5 : Option Addr) (a4 a6 : Nat) (a0 : Int) (a2 : Nat) (a3 a1 : Array Value) {R : RW} {w : World} (h : Q05.M a5 a4 a6 a0 a2 a3 a1 R w) : Calls Try.prog 73 #[.slice a5 a4 a6, .int .i64 a0, .func (.func a2) a3 a1] w fun e w' => ∃ v, e = .returned v ∧ R v w' :=
  Q0l follows (H := [(0, [0, 1, 2, 8], [(9, (.one (.int .i64))), (10, (.one (.int .i64)))])]) (args := [.slice a5 a4 a6, .int .i64 a0, .func (.func a2) a3 a1]) (cast (by kernel_rfl) h)

def Q05.N (aq : Option Addr) (af ar : Nat) (a4 : Int) (a5 : Nat) (ac aa : Array Value) (R : RW) (w : World) : Prop :=
 ∃ (I0 : Nat → List Value → World → Prop) (m6 : Nat), I0 m6 [.int .i64 0, .int .i64 (af : Int)] w ∧ ∀ (m7 : Nat) (ae : World) (i4 j5 : Int), I0 m7 [.int .i64 i4, .int .i64 j5] ae →
 (i4 < j5 →
 (-9223372036854775808 : Int) ≤ (i4 + j5) ∧ (i4 + j5) < 9223372036854775808 ∧
 (-9223372036854775808 : Int) ≤ ((IntKind.u64.wrap (i4 + j5)) / 2) ∧ ((IntKind.u64.wrap (i4 + j5)) / 2) < 9223372036854775808 ∧
 ∃ am : Addr, aq = some am ∧
 0 ≤ (((IntKind.u64.wrap (i4 + j5)) / 2) : Int) ∧ (((IntKind.u64.wrap (i4 + j5)) / 2) : Int) < (af : Int) ∧
 ∃ (a9 a1 a7 ab a3 : Int), cellsAt ae (am.add (Int.toNat ((IntKind.u64.wrap (i4 + j5)) / 2) * 5)) [.int .i64 a9, .int .u64 a1, .int .i64 a7, .int .i64 ab, .int .i64 a3] 0 ∧
 enters Try.prog a5 = true ∧ Calls Try.prog a5 (ac.toList ++ ([.agg #[.int .i64 a9, .int .u64 a1, .int .i64 a7, .int .i64 ab, .int .i64 a3], .int .i64 a4] : List Value) ++ aa.toList).toArray ae (fun ak ag => ∃ (ai : Int), ak = .returned (.int .i64 ai) ∧
 (ai < 0 →
 (-9223372036854775808 : Int) ≤ (((IntKind.u64.wrap (i4 + j5)) / 2) + 1) ∧ (((IntKind.u64.wrap (i4 + j5)) / 2) + 1) < 9223372036854775808 ∧
 ∃ ao, ao < m7 ∧ I0 ao [.int .i64 (((IntKind.u64.wrap (i4 + j5)) / 2) + 1), .int .i64 j5] ag) ∧
 ((0 : Int) ≤ ai →
 ∃ an, an < m7 ∧ I0 an [.int .i64 i4, .int .i64 ((IntKind.u64.wrap (i4 + j5)) / 2)] ag))) ∧
 (j5 ≤ i4 →
 (i4 < (af : Int) →
 ∃ al : Addr, aq = some al ∧
 0 ≤ (i4 : Int) ∧ (i4 : Int) < (af : Int) ∧
 ∃ (a8 a0 a6 ad a2 : Int), cellsAt ae (al.add (Int.toNat i4 * 5)) [.int .i64 a8, .int .u64 a0, .int .i64 a6, .int .i64 ad, .int .i64 a2] 0 ∧
 enters Try.prog a5 = true ∧ Calls Try.prog a5 (ac.toList ++ ([.agg #[.int .i64 a8, .int .u64 a0, .int .i64 a6, .int .i64 ad, .int .i64 a2], .int .i64 a4] : List Value) ++ aa.toList).toArray ae (fun ah aj => ∃ (ap : Int), ah = .returned (.int .i64 ap) ∧
 R (.tuple #[.int .i64 i4, .bool (ap == 0)]) aj)) ∧
 ((af : Int) ≤ i4 →
 R (.tuple #[.int .i64 i4, .bool false]) ae))

theorem Q05.up (aq : Option Addr) (ao ap : Nat) (a0 : Int) (a8 : Nat) (a9 a7 : Array Value) {R : RW} {w : World} (h : Q05.N aq ao ap a0 a8 a9 a7 R w) : Q05.M aq ao ap a0 a8 a9 a7 R w := by
  unfold Q05.M
  unfold Q05.N at h
  obtain ⟨I0, m6, h0, h⟩ := h
  refine ⟨I0, m6, h0, fun m7 ar i4 j5 hI => ?_⟩
  have h := h m7 ar i4 j5 hI
  refine bif_fo (fun c9 => ?_) (fun c9 => ?_)
  ·have h := h.2 (Int.not_lt.1 (of_decide_eq_false c9))
   refine bif_fo (fun ag => ?_) (fun ag => ?_)
   ·have h := h.2 (Int.not_lt.1 (of_decide_eq_false ag))
    exact h
   have h := h.1 (of_decide_eq_true ag)
   obtain ⟨b2, ai, h⟩ := h
   refine Q03 ai ?_
   obtain ⟨ah, am, h⟩ := h
   refine ⟨ah, am, ?_⟩
   obtain ⟨aa, a1, a5, af, a3, an, h⟩ := h
   refine ⟨aa, a1, a5, af, a3, an, ?_⟩
   obtain ⟨hen, h⟩ := h
   refine bif_tt hen ?_
   refine h.mono fun au ay h => ?_
   obtain ⟨az, he, h⟩ := h
   refine ⟨az, he, ?_⟩
   exact h
  have h := h.1 (of_decide_eq_true c9)
  obtain ⟨ad, ae, h⟩ := h
  try rw [w64 ad ae]
  refine ⟨by decide, ?_⟩
  try rw [show (2 ^ (min (Int.toNat 1) (IntKind.bits .u64)) : Int) = 2 from rfl]
  try rw [Int.fdiv_eq_ediv_of_nonneg (IntKind.u64.wrap (i4 + j5)) (by decide : (0 : Int) ≤ 2)]
  obtain ⟨ad, ae, h⟩ := h
  try rw [w64 ad ae]
  obtain ⟨b3, ak, h⟩ := h
  refine Q03 ak ?_
  obtain ⟨ah, am, h⟩ := h
  refine ⟨ah, am, ?_⟩
  obtain ⟨ab, a2, a6, ac, a4, aj, h⟩ := h
  refine ⟨ab, a2, a6, ac, a4, aj, ?_⟩
  obtain ⟨hen, h⟩ := h
  refine bif_tt hen ?_
  refine h.mono fun b1 b0 h => ?_
  obtain ⟨aw, he, h⟩ := h
  refine ⟨aw, he, ?_⟩
  refine bif_fo (fun al => ?_) (fun al => ?_)
  ·have h := h.2 (Int.not_lt.1 (of_decide_eq_false al))
   obtain ⟨av, hk, h⟩ := h
   exact ⟨av, hk, h⟩
  have h := h.1 (of_decide_eq_true al)
  obtain ⟨ad, ae, h⟩ := h
  try rw [w64 ad ae]
  obtain ⟨ax, hk, h⟩ := h
  exact ⟨ax, hk, h⟩

theorem Q05.go (a5 : Option Addr) (a4 a6 : Nat) (a0 : Int) (a2 : Nat) (a3 a1 : Array Value) {R : RW} {w : World} (h : Q05.N a5 a4 a6 a0 a2 a3 a1 R w) : Calls Try.prog 73 #[.slice a5 a4 a6, .int .i64 a0, .func (.func a2) a3 a1] w fun e w' => ∃ v, e = .returned v ∧ R v w' := Q05.ok a5 a4 a6 a0 a2 a3 a1 (Q05.up a5 a4 a6 a0 a2 a3 a1 h)
theorem Q05.run (a5 : Option Addr) (a4 a6 : Nat) (a0 : Int) (a2 : Nat) (a3 a1 : Array Value) {V : Value} {Q : World → Prop} {w : World} (h : Q05.N a5 a4 a6 a0 a2 a3 a1 (fun v w' => v = V ∧ Q w') w) : Calls Try.prog 73 #[.slice a5 a4 a6, .int .i64 a0, .func (.func a2) a3 a1] w (Ret V Q) := (Q05.go a5 a4 a6 a0 a2 a3 a1 h).mono fun e w' ⟨v, he, hv, hq⟩ => ⟨by rw [he, hv], hq⟩

abbrev Q02.J1 (aj : Int) (I0 : Nat → List Value → World → Prop) (b5 : Option Addr) (b0 : Nat) (b1 : Option Addr) (b3 aq : Nat) (av ay : Array Value) (az : Nat) (R : RW) (ae : World) : Prop :=
 b5.elim False fun b2 =>
 0 ≤ (aj : Int) ∧ (aj : Int) < (b0 : Int) ∧
 ∃ (ab a2 a7 ak a4 : Int), cellsAt ae (b2.add (Int.toNat aj * 5)) [.int .i64 ab, .int .u64 a2, .int .i64 a7, .int .i64 ak, .int .i64 a4] 0 ∧
 thenW (ae.alloc (.cells #[.int .i64 0, .int .u64 0, .int .i64 0, .int .i64 0, .int .i64 0] 70)) fun ar =>
 putsK ar (blk ae.heap.size) [.int .i64 ab, .int .u64 a2, .int .i64 a7, .int .i64 ak, .int .i64 a4] 0 fun af =>
 b1.elim False fun b4 =>
 0 ≤ (aj : Int) ∧ (aj : Int) < (b3 : Int) ∧
 ∃ (a8 : Int) (ah : Option Addr) (ai al : Nat), cellsAt af (b4.add (Int.toNat aj * 2)) [.int .i64 a8, .slice ah ai al] 0 ∧
 thenW (af.alloc (.cells #[.int .i64 0, .slice none 0 0] 60)) fun ap =>
 putsK ap (blk af.heap.size) [.int .i64 a8, .slice ah ai al] 0 fun ag =>
 ∃ (a6 a0 a3 a9 a1 : Int), cellsAt ag (blk ae.heap.size) [.int .i64 a6, .int .u64 a0, .int .i64 a3, .int .i64 a9, .int .i64 a1] 0 ∧
 ∃ (a5 : Int) (aa : Option Addr) (ad ac : Nat), cellsAt ag (blk af.heap.size) [.int .i64 a5, .slice aa ad ac] 0 ∧
 bif enters Try.prog aq then Calls Try.prog aq (av.toList ++ ([.agg #[.int .i64 a6, .int .u64 a0, .int .i64 a3, .int .i64 a9, .int .i64 a1], .agg #[.int .i64 a5, .slice aa ad ac]] : List Value) ++ ay.toList).toArray ag (fun au ao => ∃ (an : Bool), au = .returned (.bool an) ∧
 bif !an then (
 R (.bool false) ao) else (
 ∃ aw, aw < az ∧ I0 aw [.int .i64 (IntKind.i64.wrap (aj + 1))] ao)) else (∃ (an : Bool) (am : World), (Q1f aq (av.toList ++ ([.agg #[.int .i64 a6, .int .u64 a0, .int .i64 a3, .int .i64 a9, .int .i64 a1], .agg #[.int .i64 a5, .slice aa ad ac]] : List Value) ++ ay.toList).toArray).run Try.prog ag = .ok (.bool an) am ∧
 bif !an then (
 R (.bool false) am) else (
 ∃ ax, ax < az ∧ I0 ax [.int .i64 (IntKind.i64.wrap (aj + 1))] am))

abbrev Q02.J2 (aa : Option Addr) (a3 : Nat) (a7 : Option Addr) (ab a5 : Nat) (a8 a6 : Array Value) (R : RW) (a2 : World) : Prop :=
 ∃ (I0 : Nat → List Value → World → Prop) (a9 : Nat), I0 a9 [.int .i64 0] a2 ∧ ∀ (a4 : Nat) (a0 : World) (a1 : Int), I0 a4 [.int .i64 a1] a0 →
 bif decide (a1 < (a3 : Int)) then (
 Q02.J1 a1 I0 aa a3 a7 ab a5 a8 a6 a4 R a0) else (
 R (.bool true) a0)

def Q02.M (a6 : Option Addr) (a4 a8 : Nat) (a5 : Option Addr) (a3 a7 a1 : Nat) (a0 a2 : Array Value) (R : RW) (w : World) : Prop :=
 bif (a4 : Int) != (a3 : Int) then (
 R (.bool false) w) else (
 Q02.J2 a6 a4 a5 a3 a1 a0 a2 R w)

theorem Q02.ok (a6 : Option Addr) (a8 a7 : Nat) (a3 : Option Addr) (a5 a4 a1 : Nat) (a0 a2 : Array Value) {R : RW} {w : World} (h : Q02.M a6 a8 a7 a3 a5 a4 a1 a0 a2 R w) : Calls Try.prog 65 #[.slice a6 a8 a7, .slice a3 a5 a4, .func (.func a1) a0 a2] w fun e w' => ∃ v, e = .returned v ∧ R v w' :=
  Q0l follows (H := [(0, [1, 2, 15, 16], [(17, (.one (.int .i64)))])]) (args := [.slice a6 a8 a7, .slice a3 a5 a4, .func (.func a1) a0 a2]) (cast (by kernel_rfl) h)

def Q02.N (an : Option Addr) (ad ap : Nat) (am : Option Addr) (ai ao ac : Nat) (ae ag : Array Value) (R : RW) (w : World) : Prop :=
 ((ad : Int) ≠ (ai : Int) →
 R (.bool false) w) ∧
 ((ad : Int) = (ai : Int) →
 ∃ (I0 : Nat → List Value → World → Prop) (m6 : Nat), I0 m6 [.int .i64 0] w ∧ ∀ (m7 : Nat) (ab : World) (t5 : Int), I0 m7 [.int .i64 t5] ab →
 (t5 < (ad : Int) →
 ∃ ak : Addr, an = some ak ∧
 0 ≤ (t5 : Int) ∧ (t5 : Int) < (ad : Int) ∧
 ∃ (a4 a0 a2 a5 a1 : Int), cellsAt ab (ak.add (Int.toNat t5 * 5)) [.int .i64 a4, .int .u64 a0, .int .i64 a2, .int .i64 a5, .int .i64 a1] 0 ∧
 ∃ al : Addr, am = some al ∧
 0 ≤ (t5 : Int) ∧ (t5 : Int) < (ai : Int) ∧
 ∃ (a3 : Int) (a6 : Option Addr) (a8 a7 : Nat), cellsAt ab (al.add (Int.toNat t5 * 2)) [.int .i64 a3, .slice a6 a8 a7] 0 ∧
 ∀ (a9 : World), Ext no ab a9 →
 enters Try.prog ac = true ∧ Calls Try.prog ac (ae.toList ++ ([.agg #[.int .i64 a4, .int .u64 a0, .int .i64 a2, .int .i64 a5, .int .i64 a1], .agg #[.int .i64 a3, .slice a6 a8 a7]] : List Value) ++ ag.toList).toArray a9 (fun ah aa => ∃ (af : Bool), ah = .returned (.bool af) ∧
 (af = false →
 R (.bool false) aa) ∧
 (af = true →
 (-9223372036854775808 : Int) ≤ (t5 + 1) ∧ (t5 + 1) < 9223372036854775808 ∧
 ∃ aj, aj < m7 ∧ I0 aj [.int .i64 (t5 + 1)] aa))) ∧
 ((ad : Int) ≤ t5 →
 R (.bool true) ab))

theorem Q02.up (az : Option Addr) (b3 b2 : Nat) (ay : Option Addr) (b1 aw ae : Nat) (ad af : Array Value) {R : RW} {w : World} (h : Q02.N az b3 b2 ay b1 aw ae ad af R w) : Q02.M az b3 b2 ay b1 aw ae ad af R w := by
  unfold Q02.M
  unfold Q02.N at h
  refine bif_of (fun c4 => ?_) (fun c4 => ?_)
  ·have h := h.1 (bne_t c4)
   exact h
  have h := h.2 (bne_f c4)
  unfold Q02.J2
  obtain ⟨I0, m6, h0, h⟩ := h
  refine ⟨I0, m6, h0, fun m7 ah t5 hI => ?_⟩
  have h := h m7 ah t5 hI
  refine bif_fo (fun c9 => ?_) (fun c9 => ?_)
  ·have h := h.2 (Int.not_lt.1 (of_decide_eq_false c9))
   exact h
  have h := h.1 (of_decide_eq_true c9)
  unfold Q02.J1
  obtain ⟨bh, ap, h⟩ := h
  refine Q03 ap ?_
  obtain ⟨ak, ar, h⟩ := h
  refine ⟨ak, ar, ?_⟩
  obtain ⟨a4, a0, a2, a6, a1, ao, h⟩ := h
  refine ⟨a4, a0, a2, a6, a1, ao, ?_⟩
  refine Q01 fun b4 ax => ?_
  have a5 := Blk.of_new ax
  have be := ((Ext.refl no ah)).size
  have av := (Ext.refl no ah).x_alloc ax
  refine Q0g (k := 0) (j := 0) a5 (Nat.le_of_ble_eq_true rfl) fun ac bc b9 => ?_
  have aa := av.x_puts bc (.inr be)
  have a5 : Blk ac ah.heap.size 70 [.int .i64 a4, .int .u64 a0, .int .i64 a2, .int .i64 a6, .int .i64 a1] := b9
  obtain ⟨bi, al, h⟩ := h
  refine Q03 al ?_
  obtain ⟨ak, ar, h⟩ := h
  refine ⟨ak, ar, ?_⟩
  obtain ⟨a3, a7, a9, a8, aq, h⟩ := h
  refine ⟨a3, a7, a9, a8, Q0Z (aa) aq, ?_⟩
  refine Q01 fun bd am => ?_
  have ai := Blk.of_new am
  have b8 := (aa).size
  have ag := Nat.ne_of_lt a5.lt
  have a5 := a5.x_alloc am
  have aj := aa.x_alloc am
  refine Q0g (k := 0) (j := 0) ai (Nat.le_of_ble_eq_true rfl) fun ab b0 ba => ?_
  have au := aj.x_puts b0 (.inr b8)
  have a5 := a5.x_puts b0 ag
  have ai : Blk ab ac.heap.size 60 [.int .i64 a3, .slice a7 a9 a8] := ba
  refine ⟨a4, a0, a2, a6, a1, ⟨a5.celli 0 rfl rfl, a5.celli 1 rfl rfl, a5.celli 2 rfl rfl, a5.celli 3 rfl rfl, a5.celli 4 rfl rfl, trivial⟩, ?_⟩
  refine ⟨a3, a7, a9, a8, ⟨ai.celli 0 rfl rfl, ai.celli 1 rfl rfl, trivial⟩, ?_⟩
  have h := h ab au
  obtain ⟨hen, h⟩ := h
  refine bif_tt hen ?_
  refine h.mono fun bf b6 h => ?_
  obtain ⟨b7, he, h⟩ := h
  refine ⟨b7, he, ?_⟩
  refine bif_of (fun an => ?_) (fun an => ?_)
  ·have h := h.1 (not_t an)
   exact h
  have h := h.2 (not_f an)
  obtain ⟨bb, bg, h⟩ := h
  try rw [w64 bb bg]
  obtain ⟨b5, hk, h⟩ := h
  exact ⟨b5, hk, h⟩

theorem Q02.go (a6 : Option Addr) (a8 a7 : Nat) (a3 : Option Addr) (a5 a4 a1 : Nat) (a0 a2 : Array Value) {R : RW} {w : World} (h : Q02.N a6 a8 a7 a3 a5 a4 a1 a0 a2 R w) : Calls Try.prog 65 #[.slice a6 a8 a7, .slice a3 a5 a4, .func (.func a1) a0 a2] w fun e w' => ∃ v, e = .returned v ∧ R v w' := Q02.ok a6 a8 a7 a3 a5 a4 a1 a0 a2 (Q02.up a6 a8 a7 a3 a5 a4 a1 a0 a2 h)
theorem Q02.run (a6 : Option Addr) (a8 a7 : Nat) (a3 : Option Addr) (a5 a4 a1 : Nat) (a0 a2 : Array Value) {V : Value} {Q : World → Prop} {w : World} (h : Q02.N a6 a8 a7 a3 a5 a4 a1 a0 a2 (fun v w' => v = V ∧ Q w') w) : Calls Try.prog 65 #[.slice a6 a8 a7, .slice a3 a5 a4, .func (.func a1) a0 a2] w (Ret V Q) := (Q02.go a6 a8 a7 a3 a5 a4 a1 a0 a2 h).mono fun e w' ⟨v, he, hv, hq⟩ => ⟨by rw [he, hv], hq⟩

abbrev Q09.J1 (j8 : Option Addr) (j9 a6 : Nat) (R : RW) (a3 : World) : Prop :=
 thenW (a3.alloc (.cells #[] 70)) fun a5 =>
 ∃ (a1 : Option Addr) (a2 a4 : Nat) (a0 : World), (Builtin.append_ #[41, 41] 41 #[.slice (some (blk a3.heap.size)) 0 0, .slice j8 j9 a6]).run Try.prog a5 = .ok (.slice a1 a2 a4) a0 ∧
 R (.slice a1 a2 a4) a0

def Q09.M (a0 : Option Addr) (a2 a1 : Nat) (R : RW) (w : World) : Prop :=
 bif Option.isNone a0 then (
 R (.slice none 0 0) w) else (
 Q09.J1 a0 a2 a1 R w)

theorem Q09.ok (a0 : Option Addr) (a2 a1 : Nat) {R : RW} {w : World} (h : Q09.M a0 a2 a1 R w) : Calls Try.prog 67 #[.slice a0 a2 a1] w fun e w' => ∃ v, e = .returned v ∧ R v w' :=
  Q0l follows (H := []) (args := [.slice a0 a2 a1]) (cast (by kernel_rfl) h)

def Q09.N (a1 : Option Addr) (a7 a6 : Nat) (R : RW) (w : World) : Prop :=
 (a1 = none →
 R (.slice none 0 0) w) ∧
 (a1 ≠ none →
 ∀ (a0 : World) (q4 : Nat), Ext no w a0 → Blk a0 q4 70 [] → w.heap.size ≤ q4 → q4 < a0.heap.size →
 ∃ (a5 : Option Addr) (a4 a3 : Nat) (a2 : World), (Builtin.append_ #[41, 41] 41 #[.slice (some (blk q4)) 0 0, .slice a1 a7 a6]).run Try.prog a0 = .ok (.slice a5 a4 a3) a2 ∧
 R (.slice a5 a4 a3) a2)

theorem Q09.up (a0 : Option Addr) (a2 a1 : Nat) {R : RW} {w : World} (h : Q09.N a0 a2 a1 R w) : Q09.M a0 a2 a1 R w := by
  unfold Q09.M
  unfold Q09.N at h
  refine bif_of (fun c2 => ?_) (fun c2 => ?_)
  ·have h := h.1 (Q1z c2)
   exact h
  have h := h.2 (Q1A c2)
  unfold Q09.J1
  refine Q01 fun a3 e3 => ?_
  have h := h a3 w.heap.size ((Ext.refl no w).x_alloc e3) (Blk.of_new e3) ((Ext.refl no w)).size (Q0w e3)
  obtain ⟨a7, a6, a5, a4, hr, h⟩ := h
  refine ⟨a7, a6, a5, a4, hr, ?_⟩
  exact h

theorem Q09.go (a0 : Option Addr) (a2 a1 : Nat) {R : RW} {w : World} (h : Q09.N a0 a2 a1 R w) : Calls Try.prog 67 #[.slice a0 a2 a1] w fun e w' => ∃ v, e = .returned v ∧ R v w' := Q09.ok a0 a2 a1 (Q09.up a0 a2 a1 h)
abbrev Q04.J1 (a3 : Option Addr) (a2 a4 : Nat) (a0 ac a1 : Int) (a9 : Option Addr) (aa ab : Nat) (R : RW) (a6 : World) : Prop :=
 (0 : Int) ≤ (a0 : Int) ∧ (a0 : Int) ≤ (a2 : Int) ∧
 ∃ (ad : Int) (a5 : World), (Builtin.copy_ #[41, 41] 3 #[.slice (if a4 = Int.toNat a0 then a3 else Option.map (fun z : Addr => z.add ((Int.toNat a0) * 5)) a3) (a2 - (Int.toNat a0)) (a4 - (Int.toNat a0)), .slice a9 aa ab]).run Try.prog a6 = .ok (.int .i64 ad) a5 ∧
 (0 : Int) ≤ (a1 : Int) ∧ (a1 : Int) ≤ (a2 : Int) ∧
 Calls Try.prog 86 #[.slice (if a4 = Int.toNat a1 then a3 else Option.map (fun z : Addr => z.add ((Int.toNat a1) * 5)) a3) (a2 - (Int.toNat a1)) (a4 - (Int.toNat a1)), .int .i64 ac] a5 fun a8 a7 => a8 = .returned (.tuple #[]) ∧
 R (.slice a3 a2 a4) a7

abbrev Q04.J2 (a5 a4 : Int) (a2 : Option Addr) (a1 : Nat) (a0 : Int) (aa : Option Addr) (ab a9 : Nat) (R : RW) (ac : World) : Prop :=
 (0 : Int) ≤ ((IntKind.i64.wrap (a5 + a4)) : Int) ∧ ((IntKind.i64.wrap (a5 + a4)) : Int) ≤ (a1 : Int) ∧
 (0 : Int) ≤ ((IntKind.i64.wrap (a0 + a4)) : Int) ∧ ((IntKind.i64.wrap (a0 + a4)) : Int) ≤ (((Int.toNat (IntKind.i64.wrap (a5 + a4))) - 0 : Nat) : Int) ∧
 ∃ (a3 : Bool) (a6 : World), (Q1f 85 #[.slice aa ab a9, .slice (if a1 - 0 = Int.toNat (IntKind.i64.wrap (a0 + a4)) then if a1 = 0 then a2 else Option.map (fun z : Addr => z.add (0 * 5)) a2 else Option.map (fun z : Addr => z.add ((Int.toNat (IntKind.i64.wrap (a0 + a4))) * 5)) (if a1 = 0 then a2 else Option.map (fun z : Addr => z.add (0 * 5)) a2)) (((Int.toNat (IntKind.i64.wrap (a5 + a4))) - 0) - (Int.toNat (IntKind.i64.wrap (a0 + a4)))) ((a1 - 0) - (Int.toNat (IntKind.i64.wrap (a0 + a4))))]).run Try.prog ac = .ok (.bool a3) a6 ∧
 bif !a3 then (
 thenW (a6.drew) fun ad =>
 (0 : Int) ≤ ((IntKind.i64.wrap (a0 + a4)) : Int) ∧ ((IntKind.i64.wrap (a0 + a4)) : Int) ≤ (((Int.toNat (IntKind.i64.wrap (a5 + a4))) - 0 : Nat) : Int) ∧
 (0 : Int) ≤ (a0 : Int) ∧ (a0 : Int) ≤ (((Int.toNat (IntKind.i64.wrap (a5 + a4))) - 0 : Nat) : Int) ∧
 ∃ (af : Int) (a8 : World), (Builtin.copy_ #[41, 41] 3 #[.slice (if a1 - 0 = Int.toNat (IntKind.i64.wrap (a0 + a4)) then if a1 = 0 then a2 else Option.map (fun z : Addr => z.add (0 * 5)) a2 else Option.map (fun z : Addr => z.add ((Int.toNat (IntKind.i64.wrap (a0 + a4))) * 5)) (if a1 = 0 then a2 else Option.map (fun z : Addr => z.add (0 * 5)) a2)) (((Int.toNat (IntKind.i64.wrap (a5 + a4))) - 0) - (Int.toNat (IntKind.i64.wrap (a0 + a4)))) ((a1 - 0) - (Int.toNat (IntKind.i64.wrap (a0 + a4)))), .slice (if a1 - 0 = Int.toNat a0 then if a1 = 0 then a2 else Option.map (fun z : Addr => z.add (0 * 5)) a2 else Option.map (fun z : Addr => z.add ((Int.toNat a0) * 5)) (if a1 = 0 then a2 else Option.map (fun z : Addr => z.add (0 * 5)) a2)) (((Int.toNat (IntKind.i64.wrap (a5 + a4))) - 0) - (Int.toNat a0)) ((a1 - 0) - (Int.toNat a0))]).run Try.prog ad = .ok (.int .i64 af) a8 ∧
 (0 : Int) ≤ (a0 : Int) ∧ (a0 : Int) ≤ (((Int.toNat (IntKind.i64.wrap (a5 + a4))) - 0 : Nat) : Int) ∧
 ∃ (ae : Int) (a7 : World), (Builtin.copy_ #[41, 41] 3 #[.slice (if a1 - 0 = Int.toNat a0 then if a1 = 0 then a2 else Option.map (fun z : Addr => z.add (0 * 5)) a2 else Option.map (fun z : Addr => z.add ((Int.toNat a0) * 5)) (if a1 = 0 then a2 else Option.map (fun z : Addr => z.add (0 * 5)) a2)) (((Int.toNat (IntKind.i64.wrap (a5 + a4))) - 0) - (Int.toNat a0)) ((a1 - 0) - (Int.toNat a0)), .slice aa ab a9]).run Try.prog a8 = .ok (.int .i64 ae) a7 ∧
 R (.slice (if a1 = 0 then a2 else Option.map (fun z : Addr => z.add (0 * 5)) a2) ((Int.toNat (IntKind.i64.wrap (a5 + a4))) - 0) (a1 - 0)) a7) else (
 Q04.J1 (if a1 = 0 then a2 else Option.map (fun z : Addr => z.add (0 * 5)) a2) ((Int.toNat (IntKind.i64.wrap (a5 + a4))) - 0) (a1 - 0) a5 a4 a0 aa ab a9 R a6)

abbrev Q04.J3 (ac a4 : Int) (a6 : Option Addr) (ae a5 : Nat) (a0 : Int) (ad : Option Addr) (ag af : Nat) (R : RW) (a9 : World) : Prop :=
 bif decide ((IntKind.i64.wrap (ac + a4)) > (a5 : Int)) then (
 (0 : Int) ≤ (a0 : Int) ∧ (a0 : Int) ≤ (a5 : Int) ∧
 ∃ (a3 : Option Addr) (a1 a2 : Nat) (aa : World), (Builtin.append_ #[41, 3] 41 #[.slice (if a5 = 0 then a6 else Option.map (fun z : Addr => z.add (0 * 5)) a6) ((Int.toNat a0) - 0) (a5 - 0), .int .i64 (IntKind.i64.wrap ((IntKind.i64.wrap (ac + a4)) - a0))]).run Try.prog a9 = .ok (.slice a3 a1 a2) aa ∧
 (0 : Int) ≤ (a0 : Int) ∧ (a0 : Int) ≤ (a1 : Int) ∧
 ∃ (ai : Int) (a8 : World), (Builtin.copy_ #[41, 41] 3 #[.slice (if a2 = Int.toNat a0 then a3 else Option.map (fun z : Addr => z.add ((Int.toNat a0) * 5)) a3) (a1 - (Int.toNat a0)) (a2 - (Int.toNat a0)), .slice ad ag af]).run Try.prog aa = .ok (.int .i64 ai) a8 ∧
 thenW (a8.drew) fun ab =>
 (0 : Int) ≤ ((IntKind.i64.wrap (a0 + a4)) : Int) ∧ ((IntKind.i64.wrap (a0 + a4)) : Int) ≤ (a1 : Int) ∧
 (0 : Int) ≤ (a0 : Int) ∧ (a0 : Int) ≤ (ae : Int) ∧
 ∃ (ah : Int) (a7 : World), (Builtin.copy_ #[41, 41] 3 #[.slice (if a2 = Int.toNat (IntKind.i64.wrap (a0 + a4)) then a3 else Option.map (fun z : Addr => z.add ((Int.toNat (IntKind.i64.wrap (a0 + a4))) * 5)) a3) (a1 - (Int.toNat (IntKind.i64.wrap (a0 + a4)))) (a2 - (Int.toNat (IntKind.i64.wrap (a0 + a4)))), .slice (if a5 = Int.toNat a0 then a6 else Option.map (fun z : Addr => z.add ((Int.toNat a0) * 5)) a6) (ae - (Int.toNat a0)) (a5 - (Int.toNat a0))]).run Try.prog ab = .ok (.int .i64 ah) a7 ∧
 R (.slice a3 a1 a2) a7) else (
 Q04.J2 ac a4 a6 a5 a0 ad ag af R a9)

abbrev Q04.J4 (j6 : Int) (a7 : Option Addr) (a5 a6 : Nat) (a9 : Int) (ab : Option Addr) (aa a8 : Nat) (R : RW) (a2 : World) : Prop :=
 bif a9 == (a5 : Int) then (
 ∃ (a0 : Option Addr) (a3 a1 : Nat) (a4 : World), (Builtin.append_ #[41, 41] 41 #[.slice a7 a5 a6, .slice ab aa a8]).run Try.prog a2 = .ok (.slice a0 a3 a1) a4 ∧
 R (.slice a0 a3 a1) a4) else (
 Q04.J3 (a5 : Int) j6 a7 a5 a6 a9 ab aa a8 R a2)

def Q04.M (a2 : Option Addr) (a0 a3 : Nat) (i2 : Int) (a5 : Option Addr) (a1 a4 : Nat) (R : RW) (w : World) : Prop :=
 (0 : Int) ≤ (i2 : Int) ∧ (i2 : Int) ≤ (a0 : Int) ∧
 bif (a1 : Int) == 0 then (
 R (.slice a2 a0 a3) w) else (
 Q04.J4 (a1 : Int) a2 a0 a3 i2 a5 a1 a4 R w)

theorem Q04.ok (a1 : Option Addr) (a4 a2 : Nat) (i2 : Int) (a3 : Option Addr) (a5 a0 : Nat) {R : RW} {w : World} (h : Q04.M a1 a4 a2 i2 a3 a5 a0 R w) : Calls Try.prog 68 #[.slice a1 a4 a2, .int .i64 i2, .slice a3 a5 a0] w fun e w' => ∃ v, e = .returned v ∧ R v w' :=
  Q0l follows (H := []) (args := [.slice a1 a4 a2, .int .i64 i2, .slice a3 a5 a0]) (cast (by kernel_rfl) h)

def Q04.N (a3 : Option Addr) (a1 a2 : Nat) (i2 : Int) (ad : Option Addr) (a0 aa : Nat) (R : RW) (w : World) : Prop :=
 (0 : Int) ≤ (i2 : Int) ∧ (i2 : Int) ≤ (a1 : Int) ∧ 
 ((a0 : Int) = 0 →
 R (.slice a3 a1 a2) w) ∧
 ((a0 : Int) ≠ 0 →
 (i2 = (a1 : Int) →
 ∃ (al : Option Addr) (am ao : Nat) (an : World), (Builtin.append_ #[41, 41] 41 #[.slice a3 a1 a2, .slice ad a0 aa]).run Try.prog w = .ok (.slice al am ao) an ∧
 R (.slice al am ao) an) ∧
 (i2 ≠ (a1 : Int) →
 (-9223372036854775808 : Int) ≤ ((a1 : Int) + (a0 : Int)) ∧ ((a1 : Int) + (a0 : Int)) < 9223372036854775808 ∧
 (((a1 : Int) + (a0 : Int)) > (a2 : Int) →
 (0 : Int) ≤ (i2 : Int) ∧ (i2 : Int) ≤ (a2 : Int) ∧ 
 (-9223372036854775808 : Int) ≤ ((a1 : Int) + (a0 : Int)) ∧ ((a1 : Int) + (a0 : Int)) < 9223372036854775808 ∧
 (-9223372036854775808 : Int) ≤ (((a1 : Int) + (a0 : Int)) - i2) ∧ (((a1 : Int) + (a0 : Int)) - i2) < 9223372036854775808 ∧
 ∃ (ah : Option Addr) (a6 a5 : Nat) (a8 : World), (Builtin.append_ #[41, 3] 41 #[.slice a3 (Int.toNat i2) a2, .int .i64 (((a1 : Int) + (a0 : Int)) - i2)]).run Try.prog w = .ok (.slice ah a6 a5) a8 ∧
 (0 : Int) ≤ (i2 : Int) ∧ (i2 : Int) ≤ (a6 : Int) ∧ 
 ∃ (ap : Int) (ac : World), (Builtin.copy_ #[41, 41] 3 #[.slice (cutA ah a5 (Int.toNat i2) 5) (a6 - (Int.toNat i2)) (a5 - (Int.toNat i2)), .slice ad a0 aa]).run Try.prog a8 = .ok (.int .i64 ap) ac ∧
 (-9223372036854775808 : Int) ≤ (i2 + (a0 : Int)) ∧ (i2 + (a0 : Int)) < 9223372036854775808 ∧
 (0 : Int) ≤ ((i2 + (a0 : Int)) : Int) ∧ ((i2 + (a0 : Int)) : Int) ≤ (a6 : Int) ∧ 
 (0 : Int) ≤ (i2 : Int) ∧ (i2 : Int) ≤ (a1 : Int) ∧ 
 ∀ (af : World), Ext no ac af →
 ∃ (aq : Int) (a7 : World), (Builtin.copy_ #[41, 41] 3 #[.slice (cutA ah a5 (Int.toNat (i2 + (a0 : Int))) 5) (a6 - (Int.toNat (i2 + (a0 : Int)))) (a5 - (Int.toNat (i2 + (a0 : Int)))), .slice (cutA a3 a2 (Int.toNat i2) 5) (a1 - (Int.toNat i2)) (a2 - (Int.toNat i2))]).run Try.prog af = .ok (.int .i64 aq) a7 ∧
 R (.slice ah a6 a5) a7) ∧
 (((a1 : Int) + (a0 : Int)) ≤ (a2 : Int) →
 (-9223372036854775808 : Int) ≤ ((a1 : Int) + (a0 : Int)) ∧ ((a1 : Int) + (a0 : Int)) < 9223372036854775808 ∧
 (0 : Int) ≤ (((a1 : Int) + (a0 : Int)) : Int) ∧ (((a1 : Int) + (a0 : Int)) : Int) ≤ (a2 : Int) ∧ 
 (-9223372036854775808 : Int) ≤ (i2 + (a0 : Int)) ∧ (i2 + (a0 : Int)) < 9223372036854775808 ∧
 (0 : Int) ≤ ((i2 + (a0 : Int)) : Int) ∧ ((i2 + (a0 : Int)) : Int) ≤ ((Int.toNat ((a1 : Int) + (a0 : Int))) : Int) ∧ 
 ∃ (ak : Bool) (a4 : World), (Q1f 85 #[.slice ad a0 aa, .slice (cutA a3 a2 (Int.toNat (i2 + (a0 : Int))) 5) ((Int.toNat ((a1 : Int) + (a0 : Int))) - (Int.toNat (i2 + (a0 : Int)))) (a2 - (Int.toNat (i2 + (a0 : Int))))]).run Try.prog w = .ok (.bool ak) a4 ∧
 (ak = false →
 (-9223372036854775808 : Int) ≤ (i2 + (a0 : Int)) ∧ (i2 + (a0 : Int)) < 9223372036854775808 ∧
 (0 : Int) ≤ ((i2 + (a0 : Int)) : Int) ∧ ((i2 + (a0 : Int)) : Int) ≤ ((Int.toNat ((a1 : Int) + (a0 : Int))) : Int) ∧ 
 (0 : Int) ≤ (i2 : Int) ∧ (i2 : Int) ≤ ((Int.toNat ((a1 : Int) + (a0 : Int))) : Int) ∧ 
 ∀ (ag : World), Ext no a4 ag →
 ∃ (au : Int) (ab : World), (Builtin.copy_ #[41, 41] 3 #[.slice (cutA a3 a2 (Int.toNat (i2 + (a0 : Int))) 5) ((Int.toNat ((a1 : Int) + (a0 : Int))) - (Int.toNat (i2 + (a0 : Int)))) (a2 - (Int.toNat (i2 + (a0 : Int)))), .slice (cutA a3 a2 (Int.toNat i2) 5) ((Int.toNat ((a1 : Int) + (a0 : Int))) - (Int.toNat i2)) (a2 - (Int.toNat i2))]).run Try.prog ag = .ok (.int .i64 au) ab ∧
 (0 : Int) ≤ (i2 : Int) ∧ (i2 : Int) ≤ ((Int.toNat ((a1 : Int) + (a0 : Int))) : Int) ∧ 
 ∃ (av : Int) (ae : World), (Builtin.copy_ #[41, 41] 3 #[.slice (cutA a3 a2 (Int.toNat i2) 5) ((Int.toNat ((a1 : Int) + (a0 : Int))) - (Int.toNat i2)) (a2 - (Int.toNat i2)), .slice ad a0 aa]).run Try.prog ab = .ok (.int .i64 av) ae ∧
 R (.slice a3 (Int.toNat ((a1 : Int) + (a0 : Int))) a2) ae) ∧
 (ak = true →
 (0 : Int) ≤ ((a1 : Int) : Int) ∧ ((a1 : Int) : Int) ≤ ((Int.toNat ((a1 : Int) + (a0 : Int))) : Int) ∧ 
 ∃ (ar : Int) (a9 : World), (Builtin.copy_ #[41, 41] 3 #[.slice (cutA a3 a2 (Int.toNat (a1 : Int)) 5) ((Int.toNat ((a1 : Int) + (a0 : Int))) - (Int.toNat (a1 : Int))) (a2 - (Int.toNat (a1 : Int))), .slice ad a0 aa]).run Try.prog a4 = .ok (.int .i64 ar) a9 ∧
 (0 : Int) ≤ (i2 : Int) ∧ (i2 : Int) ≤ ((Int.toNat ((a1 : Int) + (a0 : Int))) : Int) ∧ 
 Calls Try.prog 86 #[.slice (cutA a3 a2 (Int.toNat i2) 5) ((Int.toNat ((a1 : Int) + (a0 : Int))) - (Int.toNat i2)) (a2 - (Int.toNat i2)), .int .i64 (a0 : Int)] a9 fun ai aj => ai = .returned (.tuple #[]) ∧
 R (.slice a3 (Int.toNat ((a1 : Int) + (a0 : Int))) a2) aj))))

theorem Q04.up (ah : Option Addr) (ak aj : Nat) (i2 : Int) (ai : Option Addr) (al ag : Nat) {R : RW} {w : World} (h : Q04.N ah ak aj i2 ai al ag R w) : Q04.M ah ak aj i2 ai al ag R w := by
  unfold Q04.M
  unfold Q04.N at h
  obtain ⟨a1, a0, h⟩ := h
  refine ⟨a1, a0, ?_⟩
  refine bif_of (fun c4 => ?_) (fun c4 => ?_)
  ·have h := h.1 (beq_t c4)
   exact h
  have h := h.2 (beq_f c4)
  unfold Q04.J4
  refine bif_of (fun c5 => ?_) (fun c5 => ?_)
  ·have h := h.1 (beq_t c5)
   obtain ⟨ar, au, b3, ax, hr, h⟩ := h
   refine ⟨ar, au, b3, ax, hr, ?_⟩
   exact h
  have h := h.2 (beq_f c5)
  unfold Q04.J3
  obtain ⟨a2, a3, h⟩ := h
  try rw [w64 a2 a3]
  refine bif_of (fun c8 => ?_) (fun c8 => ?_)
  ·have h := h.1 (of_decide_eq_true c8)
   obtain ⟨a1, a0, h⟩ := h
   refine ⟨a1, a0, ?_⟩
   try rw [Q5b]
   obtain ⟨a2, a3, h⟩ := h
   try rw [w64 a2 a3]
   obtain ⟨a2, a3, h⟩ := h
   try rw [w64 a2 a3]
   obtain ⟨b4, aw, an, a7, hr, h⟩ := h
   refine ⟨b4, aw, an, a7, hr, ?_⟩
   obtain ⟨a1, a0, h⟩ := h
   refine ⟨a1, a0, ?_⟩
   obtain ⟨ao, a5, hr, h⟩ := h
   refine ⟨ao, a5, hr, ?_⟩
   refine Q01 fun ae aq => ?_
   have a8 := (Ext.refl no a5).x_drew aq
   obtain ⟨a2, a3, h⟩ := h
   try rw [w64 a2 a3]
   obtain ⟨a1, a0, h⟩ := h
   refine ⟨a1, a0, ?_⟩
   obtain ⟨a1, a0, h⟩ := h
   refine ⟨a1, a0, ?_⟩
   have h := h ae a8
   obtain ⟨ap, a6, hr, h⟩ := h
   refine ⟨ap, a6, hr, ?_⟩
   exact h
  have h := h.2 (Int.not_lt.1 (of_decide_eq_false c8))
  unfold Q04.J2
  obtain ⟨a2, a3, h⟩ := h
  try rw [w64 a2 a3]
  obtain ⟨a1, a0, h⟩ := h
  refine ⟨a1, a0, ?_⟩
  try rw [Q5b]
  obtain ⟨a2, a3, h⟩ := h
  try rw [w64 a2 a3]
  obtain ⟨a1, a0, h⟩ := h
  refine ⟨a1, a0, ?_⟩
  obtain ⟨b0, a4, hr, h⟩ := h
  refine ⟨b0, a4, hr, ?_⟩
  refine bif_fo (fun a9 => ?_) (fun a9 => ?_)
  ·have h := h.2 (not_f a9)
   unfold Q04.J1
   obtain ⟨a1, a0, h⟩ := h
   refine ⟨a1, a0, ?_⟩
   obtain ⟨ay, aa, hr, h⟩ := h
   refine ⟨ay, aa, hr, ?_⟩
   obtain ⟨a1, a0, h⟩ := h
   refine ⟨a1, a0, ?_⟩
   refine h.mono fun am av h => ?_
   obtain ⟨he, h⟩ := h
   refine ⟨he, ?_⟩
   exact h
  have h := h.1 (not_t a9)
  refine Q01 fun af az => ?_
  have ab := (Ext.refl no a4).x_drew az
  obtain ⟨a2, a3, h⟩ := h
  try rw [w64 a2 a3]
  obtain ⟨a1, a0, h⟩ := h
  refine ⟨a1, a0, ?_⟩
  obtain ⟨a1, a0, h⟩ := h
  refine ⟨a1, a0, ?_⟩
  have h := h af ab
  obtain ⟨b1, ac, hr, h⟩ := h
  refine ⟨b1, ac, hr, ?_⟩
  obtain ⟨a1, a0, h⟩ := h
  refine ⟨a1, a0, ?_⟩
  obtain ⟨b2, ad, hr, h⟩ := h
  refine ⟨b2, ad, hr, ?_⟩
  exact h

theorem Q04.go (a1 : Option Addr) (a4 a2 : Nat) (i2 : Int) (a3 : Option Addr) (a5 a0 : Nat) {R : RW} {w : World} (h : Q04.N a1 a4 a2 i2 a3 a5 a0 R w) : Calls Try.prog 68 #[.slice a1 a4 a2, .int .i64 i2, .slice a3 a5 a0] w fun e w' => ∃ v, e = .returned v ∧ R v w' := Q04.ok a1 a4 a2 i2 a3 a5 a0 (Q04.up a1 a4 a2 i2 a3 a5 a0 h)
abbrev Q0R.J1 (ac : Int) (I0 : Nat → List Value → World → Prop) (ao : Nat) (w ak : World) (R : RW) (am : World) : Prop :=
 thenW (am.drew) fun a7 =>
 ∃ (a0 : Option Addr) (a1 a2 : Nat), a7.cell? ((blk ak.heap.size).add 4) = some (.slice a0 a1 a2) ∧
 ∃ (a6 : Option Addr) (a5 a8 : Nat), a7.cell? ((blk w.heap.size).add 4) = some (.slice a6 a5 a8) ∧
 a6.elim False fun aq =>
 0 ≤ (ac : Int) ∧ (ac : Int) < (a5 : Int) ∧
 ∃ (aa : Int), a7.cell? ((aq.add (Int.toNat ac * 2)).add 0) = some (.int .i64 aa) ∧
 ∃ (a4 : Option Addr) (a3 a9 : Nat), a7.cell? ((blk w.heap.size).add 4) = some (.slice a4 a3 a9) ∧
 a4.elim False fun ap =>
 0 ≤ (ac : Int) ∧ (ac : Int) < (a3 : Int) ∧
 ∃ (ai : Option Addr) (af ae : Nat), a7.cell? ((ap.add (Int.toNat ac * 2)).add 1) = some (.slice ai af ae) ∧
 thenW (a7.alloc (.cells #[.int .i64 aa, .slice ai af ae] 60)) fun aj =>
 aj.cell? ((blk ak.heap.size).add 4) = some (.slice a0 a1 a2) ∧
 ∃ (ah : Option Addr) (ad ag : Nat) (ab : World), (Builtin.append_ #[50, 50] 50 #[.slice a0 a1 a2, .slice (some (blk a7.heap.size)) 1 1]).run Try.prog aj = .ok (.slice ah ad ag) ab ∧
 Q07 ab (((blk ak.heap.size).add 4).add 0) ∧
 thenW (ab.setCell (((blk ak.heap.size).add 4).add 0) (.slice ah ad ag)) fun al =>
 ∃ an, an < ao ∧ I0 an [.int .i64 (IntKind.i64.wrap (ac + 1))] al

def Q0R.M (b4 b8 au b0 : Int) (aw : Option Addr) (ay an : Nat) (b6 : Option Addr) (b3 b5 : Nat) (R : RW) (w : World) : Prop :=
 thenW (w.alloc (.cells #[.int .i64 b4, .int .i64 b8, .int .u64 au, .int .i64 b0, .slice aw ay an, .slice b6 b3 b5] 67)) fun bb =>
 thenW (bb.alloc (.cells #[.int .i64 0, .int .i64 0, .int .u64 0, .int .i64 0, .slice none 0 0, .slice none 0 0] 52)) fun az =>
 ∃ (b2 : Int), az.cell? ((blk w.heap.size).add 0) = some (.int .i64 b2) ∧
 ∃ (b1 : Int), az.cell? ((blk w.heap.size).add 1) = some (.int .i64 b1) ∧
 ∃ (af : Int), az.cell? ((blk w.heap.size).add 2) = some (.int .u64 af) ∧
 ∃ (ai : Int), az.cell? ((blk w.heap.size).add 3) = some (.int .i64 ai) ∧
 ∃ (ao : Option Addr) (ap am : Nat), az.cell? ((blk w.heap.size).add 5) = some (.slice ao ap am) ∧
 thenW (az.alloc (.cells #[.int .i64 0, .int .i64 0, .int .u64 0, .int .i64 0, .slice none 0 0, .slice none 0 0] 52)) fun b9 =>
 putsK b9 (blk az.heap.size) [.int .i64 b2, .int .i64 b1, .int .u64 af, .int .i64 ai, .slice none 0 0, .slice ao ap am] 0 fun ba =>
 ∃ (I0 : Nat → List Value → World → Prop) (be : Nat), I0 be [.int .i64 0] ba ∧ ∀ (bd : Nat) (ax : World) (bc : Int), I0 bd [.int .i64 bc] ax →
 ∃ (aq : Option Addr) (ad av : Nat), ax.cell? ((blk w.heap.size).add 4) = some (.slice aq ad av) ∧
 bif decide (bc < (ad : Int)) then (
 Q0R.J1 bc I0 bd w az R ax) else (
 ∃ (aj ar ab ag : Int) (a8 : Option Addr) (ac a7 : Nat) (ah : Option Addr) (al ak : Nat), cellsAt ax (blk az.heap.size) [.int .i64 aj, .int .i64 ar, .int .u64 ab, .int .i64 ag, .slice a8 ac a7, .slice ah al ak] 0 ∧
 putsK ax (blk bb.heap.size) [.int .i64 aj, .int .i64 ar, .int .u64 ab, .int .i64 ag, .slice a8 ac a7, .slice ah al ak] 0 fun b7 =>
 ∃ (aa ae a1 a4 : Int) (a2 : Option Addr) (a0 a3 : Nat) (a9 : Option Addr) (a5 a6 : Nat), cellsAt b7 (blk bb.heap.size) [.int .i64 aa, .int .i64 ae, .int .u64 a1, .int .i64 a4, .slice a2 a0 a3, .slice a9 a5 a6] 0 ∧
 R (.agg #[.int .i64 aa, .int .i64 ae, .int .u64 a1, .int .i64 a4, .slice a2 a0 a3, .slice a9 a5 a6]) b7)

theorem Q0R.ok (a6 a9 a2 a4 : Int) (a0 : Option Addr) (a3 a1 : Nat) (a7 : Option Addr) (a8 a5 : Nat) {R : RW} {w : World} (h : Q0R.M a6 a9 a2 a4 a0 a3 a1 a7 a8 a5 R w) : Calls Try.prog 26 #[.agg #[.int .i64 a6, .int .i64 a9, .int .u64 a2, .int .i64 a4, .slice a0 a3 a1, .slice a7 a8 a5]] w fun e w' => ∃ v, e = .returned v ∧ R v w' :=
  Q0l follows (H := [(0, [1, 2, 3], [(4, (.one (.int .i64)))])]) (args := [.agg #[.int .i64 a6, .int .i64 a9, .int .u64 a2, .int .i64 a4, .slice a0 a3 a1, .slice a7 a8 a5]]) (cast (by kernel_rfl) h)

def Q0R.N (ax b9 ai ap : Int) (ao : Option Addr) (a0 b2 : Nat) (az : Option Addr) (aw ay : Nat) (R : RW) (w : World) : Prop :=
 ∀ (av : World) (bf bd bb : Nat), Ext no w av → Priv w av [bf, bd, bb] →
 ∃ (I0 : Nat → List Value → World → Prop) (bh : Nat), I0 bh [.int .i64 0, .int .i64 0, .int .i64 0, .int .u64 0, .int .i64 0, .slice none 0 0, .slice none 0 0, .int .i64 ax, .int .i64 b9, .int .u64 ai, .int .i64 ap, .slice none 0 0, .slice az aw ay] av ∧ ∀ (bg : Nat) (af : World) (ag am ar a6 ae : Int) (a8 : Option Addr) (a9 a7 : Nat) (al : Option Addr) (an ah : Nat) (ab aj a3 a5 : Int) (a2 : Option Addr) (a1 a4 : Nat) (ad : Option Addr) (aa ac : Nat), I0 bg [.int .i64 ag, .int .i64 am, .int .i64 ar, .int .u64 a6, .int .i64 ae, .slice a8 a9 a7, .slice al an ah, .int .i64 ab, .int .i64 aj, .int .u64 a3, .int .i64 a5, .slice a2 a1 a4, .slice ad aa ac] af →
 (ag < (a0 : Int) →
 ∃ bc : Addr, ao = some bc ∧
 0 ≤ (ag : Int) ∧ (ag : Int) < (a0 : Int) ∧
 ∃ (aq : Int), af.cell? ((bc.add (Int.toNat ag * 2)).add 0) = some (.int .i64 aq) ∧
 0 ≤ (ag : Int) ∧ (ag : Int) < (a0 : Int) ∧
 ∃ (b8 : Option Addr) (b7 b0 : Nat), af.cell? ((bc.add (Int.toNat ag * 2)).add 1) = some (.slice b8 b7 b0) ∧
 ∀ (ak : World) (ba : Nat), Ext no af ak → Blk ak ba 60 [.int .i64 aq, .slice b8 b7 b0] → af.heap.size ≤ ba → ba < ak.heap.size →
 ∃ (b6 : Option Addr) (b1 b4 : Nat) (au : World), (Builtin.append_ #[50, 50] 50 #[.slice a2 a1 a4, .slice (some (blk ba)) 1 1]).run Try.prog ak = .ok (.slice b6 b1 b4) au ∧
 Keep [bf, bd, bb] ak au ∧
 (-9223372036854775808 : Int) ≤ (ag + 1) ∧ (ag + 1) < 9223372036854775808 ∧
 ∀ (b3 : World), Ext (fun b => b = bb) au b3 →
 ∃ be, be < bg ∧ I0 be [.int .i64 (ag + 1), .int .i64 am, .int .i64 ar, .int .u64 a6, .int .i64 ae, .slice a8 a9 a7, .slice al an ah, .int .i64 ab, .int .i64 aj, .int .u64 a3, .int .i64 a5, .slice b6 b1 b4, .slice ad aa ac] b3) ∧
 ((a0 : Int) ≤ ag →
 ∀ (b5 : World), Ext (fun b => b = bd) af b5 →
 R (.agg #[.int .i64 ab, .int .i64 aj, .int .u64 a3, .int .i64 a5, .slice a2 a1 a4, .slice ad aa ac]) b5)

theorem Q0R.up (al ax a5 ah : Int) (a7 : Option Addr) (a8 a6 : Nat) (ao : Option Addr) (an am : Nat) {R : RW} {w : World} (h : Q0R.N al ax a5 ah a7 a8 a6 ao an am R w) : Q0R.M al ax a5 ah a7 a8 a6 ao an am R w := by
  unfold Q0R.M
  unfold Q0R.N at h
  refine Q01 fun be e7 => ?_
  have ak := Blk.of_new e7
  have ca := ((Ext.refl no w)).size
  have c1 := (Ext.refl no w).x_alloc e7
  refine Q01 fun b3 e8 => ?_
  have ap := Blk.of_new e8
  have c5 := (c1).size
  have bx := Nat.ne_of_lt ak.lt
  have ak := ak.x_alloc e8
  have c0 := c1.x_alloc e8
  refine ⟨al, ak.celli 0 rfl rfl, ?_⟩
  refine ⟨ax, ak.celli 1 rfl rfl, ?_⟩
  refine ⟨a5, ak.celli 2 rfl rfl, ?_⟩
  refine ⟨ah, ak.celli 3 rfl rfl, ?_⟩
  refine ⟨ao, an, am, ak.celli 5 rfl rfl, ?_⟩
  refine Q01 fun cf e9 => ?_
  have au := Blk.of_new e9
  have bz := (c0).size
  have b2 := Nat.ne_of_lt ak.lt
  have ak := ak.x_alloc e9
  have b4 := Nat.ne_of_lt ap.lt
  have ap := ap.x_alloc e9
  have c2 := c0.x_alloc e9
  refine Q0g (k := 0) (j := 0) au (Nat.le_of_ble_eq_true rfl) fun b9 br c8 => ?_
  have bw := c2.x_puts br (.inr bz)
  have ak := ak.x_puts br b2
  have ap := ap.x_puts br b4
  have au : Blk b9 b3.heap.size 52 [.int .i64 al, .int .i64 ax, .int .u64 a5, .int .i64 ah, .slice none 0 0, .slice ao an am] := c8
  have h := h b9 (w.heap.size) (be.heap.size) (b3.heap.size) bw (Priv.cons ca ak.lt (Priv.cons c5 ap.lt (Priv.cons bz au.lt Priv.nil)))
  obtain ⟨I0, cb, h0, h⟩ := h
  refine ⟨fun k vs ww => ∃ (aw ay ae aj : Int) (ad : Option Addr) (ag af : Nat) (av : Option Addr) (ar aq : Nat) (a9 ai a0 a4 : Int) (a1 : Option Addr) (a2 a3 : Nat) (ac : Option Addr) (ab aa : Nat), Blk ww w.heap.size 67 [.int .i64 al, .int .i64 ax, .int .u64 a5, .int .i64 ah, .slice a7 a8 a6, .slice ao an am] ∧ Blk ww be.heap.size 52 [.int .i64 aw, .int .i64 ay, .int .u64 ae, .int .i64 aj, .slice ad ag af, .slice av ar aq] ∧ Blk ww b3.heap.size 52 [.int .i64 a9, .int .i64 ai, .int .u64 a0, .int .i64 a4, .slice a1 a2 a3, .slice ac ab aa] ∧ I0 k (vs ++ [.int .i64 aw, .int .i64 ay, .int .u64 ae, .int .i64 aj, .slice ad ag af, .slice av ar aq, .int .i64 a9, .int .i64 ai, .int .u64 a0, .int .i64 a4, .slice a1 a2 a3, .slice ac ab aa]) ww, cb, ⟨0, 0, 0, 0, none, 0, 0, none, 0, 0, al, ax, a5, ah, none, 0, 0, ao, an, am, ak, ap, au, h0⟩, fun c9 az cd hI => ?_⟩
  obtain ⟨aw, ay, ae, aj, ad, ag, af, av, ar, aq, a9, ai, a0, a4, a1, a2, a3, ac, ab, aa, ak, ap, au, hI⟩ := hI
  have h := h c9 az cd aw ay ae aj ad ag af av ar aq a9 ai a0 a4 a1 a2 a3 ac ab aa hI
  refine ⟨a7, a8, a6, ak.celli 4 rfl rfl, ?_⟩
  refine bif_fo (fun bh => ?_) (fun bh => ?_)
  ·have h := h.2 (Int.not_lt.1 (of_decide_eq_false bh))
   refine ⟨a9, ai, a0, a4, a1, a2, a3, ac, ab, aa, ⟨au.celli 0 rfl rfl, au.celli 1 rfl rfl, au.celli 2 rfl rfl, au.celli 3 rfl rfl, au.celli 4 rfl rfl, au.celli 5 rfl rfl, trivial⟩, ?_⟩
   have bo : Ext (fun b => b = be.heap.size) az az := ((Ext.refl no az)).none
   refine Q0g (k := 0) (j := 0) ap (Nat.le_of_ble_eq_true rfl) fun bb c7 c4 => ?_
   have bk := bo.x_puts c7 (.inl rfl)
   have ap : Blk bb be.heap.size 52 [.int .i64 a9, .int .i64 ai, .int .u64 a0, .int .i64 a4, .slice a1 a2 a3, .slice ac ab aa] := c4
   refine ⟨a9, ai, a0, a4, a1, a2, a3, ac, ab, aa, ⟨ap.celli 0 rfl rfl, ap.celli 1 rfl rfl, ap.celli 2 rfl rfl, ap.celli 3 rfl rfl, ap.celli 4 rfl rfl, ap.celli 5 rfl rfl, trivial⟩, ?_⟩
   have h := h bb bk
   exact h
  have h := h.1 (of_decide_eq_true bh)
  unfold Q0R.J1
  refine Q01 fun bn bf => ?_
  have b0 := (Ext.refl no az).x_drew bf
  have ak := ak.x_drew bf
  have ap := ap.x_drew bf
  have au := au.x_drew bf
  refine ⟨a1, a2, a3, au.celli 4 rfl rfl, ?_⟩
  refine ⟨a7, a8, a6, ak.celli 4 rfl rfl, ?_⟩
  obtain ⟨ce, bd, h⟩ := h
  refine Q03 bd ?_
  obtain ⟨bm, bv, h⟩ := h
  refine ⟨bm, bv, ?_⟩
  obtain ⟨bc, bl, h⟩ := h
  refine ⟨bc, (b0).cell bl id, ?_⟩
  refine ⟨a7, a8, a6, ak.celli 4 rfl rfl, ?_⟩
  refine Q03 bd ?_
  obtain ⟨bm, bv, h⟩ := h
  refine ⟨bm, bv, ?_⟩
  obtain ⟨bj, bt, bq, bs, h⟩ := h
  refine ⟨bj, bt, bq, (b0).cell bs id, ?_⟩
  refine Q01 fun bu b8 => ?_
  have ak := ak.x_alloc b8
  have ap := ap.x_alloc b8
  have au := au.x_alloc b8
  have h := h bu bn.heap.size (b0.x_alloc b8) (Blk.of_new b8) (b0).size (Q0w b8)
  refine ⟨au.celli 4 rfl rfl, ?_⟩
  obtain ⟨b6, b7, b5, b1, hr, hk, h⟩ := h
  refine ⟨b6, b7, b5, b1, hr, ?_⟩
  have ak := hk.blk ak (by simp)
  have ap := hk.blk ap (by simp)
  have au := hk.blk au (by simp)
  have bp : Ext (fun b => b = b3.heap.size) b1 b1 := ((Ext.refl no b1)).none
  refine ⟨au.cani 4 rfl rfl, Q01 fun ba bg => ?_⟩
  have bi := bp.x_set (q := b3.heap.size) (i := 4) rfl (.inl rfl) bg
  have ak := ak.oth (q := b3.heap.size) (i := 4) rfl b2 bg
  have ap := ap.oth (q := b3.heap.size) (i := 4) rfl b4 bg
  have au : Blk ba b3.heap.size 52 [.int .i64 a9, .int .i64 ai, .int .u64 a0, .int .i64 a4, .slice b6 b7 b5, .slice ac ab aa] := au.seti 4 rfl bg
  obtain ⟨cc, c6, h⟩ := h
  try rw [w64 cc c6]
  have h := h ba bi
  obtain ⟨c3, hk, h⟩ := h
  exact ⟨c3, hk, aw, ay, ae, aj, ad, ag, af, av, ar, aq, a9, ai, a0, a4, b6, b7, b5, ac, ab, aa, ak, ap, au, h⟩

theorem Q0R.go (a6 a9 a2 a4 : Int) (a0 : Option Addr) (a3 a1 : Nat) (a7 : Option Addr) (a8 a5 : Nat) {R : RW} {w : World} (h : Q0R.N a6 a9 a2 a4 a0 a3 a1 a7 a8 a5 R w) : Calls Try.prog 26 #[.agg #[.int .i64 a6, .int .i64 a9, .int .u64 a2, .int .i64 a4, .slice a0 a3 a1, .slice a7 a8 a5]] w fun e w' => ∃ v, e = .returned v ∧ R v w' := Q0R.ok a6 a9 a2 a4 a0 a3 a1 a7 a8 a5 (Q0R.up a6 a9 a2 a4 a0 a3 a1 a7 a8 a5 h)
abbrev Q0J.J1 (ac : Int) (I0 : Nat → List Value → World → Prop) (ao : Nat) (w ak : World) (R : RW) (am : World) : Prop :=
 thenW (am.drew) fun a7 =>
 ∃ (a0 : Option Addr) (a1 a2 : Nat), a7.cell? ((blk ak.heap.size).add 4) = some (.slice a0 a1 a2) ∧
 ∃ (a6 : Option Addr) (a5 a8 : Nat), a7.cell? ((blk w.heap.size).add 4) = some (.slice a6 a5 a8) ∧
 a6.elim False fun aq =>
 0 ≤ (ac : Int) ∧ (ac : Int) < (a5 : Int) ∧
 ∃ (aa : Int), a7.cell? ((aq.add (Int.toNat ac * 2)).add 0) = some (.int .i64 aa) ∧
 ∃ (a4 : Option Addr) (a3 a9 : Nat), a7.cell? ((blk w.heap.size).add 4) = some (.slice a4 a3 a9) ∧
 a4.elim False fun ap =>
 0 ≤ (ac : Int) ∧ (ac : Int) < (a3 : Int) ∧
 ∃ (ai : Option Addr) (af ae : Nat), a7.cell? ((ap.add (Int.toNat ac * 2)).add 1) = some (.slice ai af ae) ∧
 thenW (a7.alloc (.cells #[.int .i64 aa, .slice ai af ae] 119)) fun aj =>
 aj.cell? ((blk ak.heap.size).add 4) = some (.slice a0 a1 a2) ∧
 ∃ (ah : Option Addr) (ad ag : Nat) (ab : World), (Builtin.append_ #[28, 28] 28 #[.slice a0 a1 a2, .slice (some (blk a7.heap.size)) 1 1]).run Try.prog aj = .ok (.slice ah ad ag) ab ∧
 Q07 ab (((blk ak.heap.size).add 4).add 0) ∧
 thenW (ab.setCell (((blk ak.heap.size).add 4).add 0) (.slice ah ad ag)) fun al =>
 ∃ an, an < ao ∧ I0 an [.int .i64 (IntKind.i64.wrap (ac + 1))] al

def Q0J.M (b4 b8 au b0 : Int) (aw : Option Addr) (ay an : Nat) (b6 : Option Addr) (b3 b5 : Nat) (R : RW) (w : World) : Prop :=
 thenW (w.alloc (.cells #[.int .i64 b4, .int .i64 b8, .int .u64 au, .int .i64 b0, .slice aw ay an, .slice b6 b3 b5] 52)) fun bb =>
 thenW (bb.alloc (.cells #[.int .i64 0, .int .i64 0, .int .u64 0, .int .i64 0, .slice none 0 0, .slice none 0 0] 67)) fun az =>
 ∃ (b2 : Int), az.cell? ((blk w.heap.size).add 0) = some (.int .i64 b2) ∧
 ∃ (b1 : Int), az.cell? ((blk w.heap.size).add 1) = some (.int .i64 b1) ∧
 ∃ (af : Int), az.cell? ((blk w.heap.size).add 2) = some (.int .u64 af) ∧
 ∃ (ai : Int), az.cell? ((blk w.heap.size).add 3) = some (.int .i64 ai) ∧
 ∃ (ao : Option Addr) (ap am : Nat), az.cell? ((blk w.heap.size).add 5) = some (.slice ao ap am) ∧
 thenW (az.alloc (.cells #[.int .i64 0, .int .i64 0, .int .u64 0, .int .i64 0, .slice none 0 0, .slice none 0 0] 67)) fun b9 =>
 putsK b9 (blk az.heap.size) [.int .i64 b2, .int .i64 b1, .int .u64 af, .int .i64 ai, .slice none 0 0, .slice ao ap am] 0 fun ba =>
 ∃ (I0 : Nat → List Value → World → Prop) (be : Nat), I0 be [.int .i64 0] ba ∧ ∀ (bd : Nat) (ax : World) (bc : Int), I0 bd [.int .i64 bc] ax →
 ∃ (aq : Option Addr) (ad av : Nat), ax.cell? ((blk w.heap.size).add 4) = some (.slice aq ad av) ∧
 bif decide (bc < (ad : Int)) then (
 Q0J.J1 bc I0 bd w az R ax) else (
 ∃ (aj ar ab ag : Int) (a8 : Option Addr) (ac a7 : Nat) (ah : Option Addr) (al ak : Nat), cellsAt ax (blk az.heap.size) [.int .i64 aj, .int .i64 ar, .int .u64 ab, .int .i64 ag, .slice a8 ac a7, .slice ah al ak] 0 ∧
 putsK ax (blk bb.heap.size) [.int .i64 aj, .int .i64 ar, .int .u64 ab, .int .i64 ag, .slice a8 ac a7, .slice ah al ak] 0 fun b7 =>
 ∃ (aa ae a1 a4 : Int) (a2 : Option Addr) (a0 a3 : Nat) (a9 : Option Addr) (a5 a6 : Nat), cellsAt b7 (blk bb.heap.size) [.int .i64 aa, .int .i64 ae, .int .u64 a1, .int .i64 a4, .slice a2 a0 a3, .slice a9 a5 a6] 0 ∧
 R (.agg #[.int .i64 aa, .int .i64 ae, .int .u64 a1, .int .i64 a4, .slice a2 a0 a3, .slice a9 a5 a6]) b7)

theorem Q0J.ok (a6 a9 a2 a4 : Int) (a0 : Option Addr) (a3 a1 : Nat) (a7 : Option Addr) (a8 a5 : Nat) {R : RW} {w : World} (h : Q0J.M a6 a9 a2 a4 a0 a3 a1 a7 a8 a5 R w) : Calls Try.prog 15 #[.agg #[.int .i64 a6, .int .i64 a9, .int .u64 a2, .int .i64 a4, .slice a0 a3 a1, .slice a7 a8 a5]] w fun e w' => ∃ v, e = .returned v ∧ R v w' :=
  Q0l follows (H := [(0, [1, 2, 3], [(4, (.one (.int .i64)))])]) (args := [.agg #[.int .i64 a6, .int .i64 a9, .int .u64 a2, .int .i64 a4, .slice a0 a3 a1, .slice a7 a8 a5]]) (cast (by kernel_rfl) h)

def Q0J.N (ax b9 ai ap : Int) (ao : Option Addr) (a0 b2 : Nat) (az : Option Addr) (aw ay : Nat) (R : RW) (w : World) : Prop :=
 ∀ (av : World) (bf bd bb : Nat), Ext no w av → Priv w av [bf, bd, bb] →
 ∃ (I0 : Nat → List Value → World → Prop) (bh : Nat), I0 bh [.int .i64 0, .int .i64 0, .int .i64 0, .int .u64 0, .int .i64 0, .slice none 0 0, .slice none 0 0, .int .i64 ax, .int .i64 b9, .int .u64 ai, .int .i64 ap, .slice none 0 0, .slice az aw ay] av ∧ ∀ (bg : Nat) (af : World) (ag am ar a6 ae : Int) (a8 : Option Addr) (a9 a7 : Nat) (al : Option Addr) (an ah : Nat) (ab aj a3 a5 : Int) (a2 : Option Addr) (a1 a4 : Nat) (ad : Option Addr) (aa ac : Nat), I0 bg [.int .i64 ag, .int .i64 am, .int .i64 ar, .int .u64 a6, .int .i64 ae, .slice a8 a9 a7, .slice al an ah, .int .i64 ab, .int .i64 aj, .int .u64 a3, .int .i64 a5, .slice a2 a1 a4, .slice ad aa ac] af →
 (ag < (a0 : Int) →
 ∃ bc : Addr, ao = some bc ∧
 0 ≤ (ag : Int) ∧ (ag : Int) < (a0 : Int) ∧
 ∃ (aq : Int), af.cell? ((bc.add (Int.toNat ag * 2)).add 0) = some (.int .i64 aq) ∧
 0 ≤ (ag : Int) ∧ (ag : Int) < (a0 : Int) ∧
 ∃ (b8 : Option Addr) (b7 b0 : Nat), af.cell? ((bc.add (Int.toNat ag * 2)).add 1) = some (.slice b8 b7 b0) ∧
 ∀ (ak : World) (ba : Nat), Ext no af ak → Blk ak ba 119 [.int .i64 aq, .slice b8 b7 b0] → af.heap.size ≤ ba → ba < ak.heap.size →
 ∃ (b6 : Option Addr) (b1 b4 : Nat) (au : World), (Builtin.append_ #[28, 28] 28 #[.slice a2 a1 a4, .slice (some (blk ba)) 1 1]).run Try.prog ak = .ok (.slice b6 b1 b4) au ∧
 Keep [bf, bd, bb] ak au ∧
 (-9223372036854775808 : Int) ≤ (ag + 1) ∧ (ag + 1) < 9223372036854775808 ∧
 ∀ (b3 : World), Ext (fun b => b = bb) au b3 →
 ∃ be, be < bg ∧ I0 be [.int .i64 (ag + 1), .int .i64 am, .int .i64 ar, .int .u64 a6, .int .i64 ae, .slice a8 a9 a7, .slice al an ah, .int .i64 ab, .int .i64 aj, .int .u64 a3, .int .i64 a5, .slice b6 b1 b4, .slice ad aa ac] b3) ∧
 ((a0 : Int) ≤ ag →
 ∀ (b5 : World), Ext (fun b => b = bd) af b5 →
 R (.agg #[.int .i64 ab, .int .i64 aj, .int .u64 a3, .int .i64 a5, .slice a2 a1 a4, .slice ad aa ac]) b5)

theorem Q0J.up (al ax a5 ah : Int) (a7 : Option Addr) (a8 a6 : Nat) (ao : Option Addr) (an am : Nat) {R : RW} {w : World} (h : Q0J.N al ax a5 ah a7 a8 a6 ao an am R w) : Q0J.M al ax a5 ah a7 a8 a6 ao an am R w := by
  unfold Q0J.M
  unfold Q0J.N at h
  refine Q01 fun be e7 => ?_
  have ak := Blk.of_new e7
  have ca := ((Ext.refl no w)).size
  have c1 := (Ext.refl no w).x_alloc e7
  refine Q01 fun b3 e8 => ?_
  have ap := Blk.of_new e8
  have c5 := (c1).size
  have bx := Nat.ne_of_lt ak.lt
  have ak := ak.x_alloc e8
  have c0 := c1.x_alloc e8
  refine ⟨al, ak.celli 0 rfl rfl, ?_⟩
  refine ⟨ax, ak.celli 1 rfl rfl, ?_⟩
  refine ⟨a5, ak.celli 2 rfl rfl, ?_⟩
  refine ⟨ah, ak.celli 3 rfl rfl, ?_⟩
  refine ⟨ao, an, am, ak.celli 5 rfl rfl, ?_⟩
  refine Q01 fun cf e9 => ?_
  have au := Blk.of_new e9
  have bz := (c0).size
  have b2 := Nat.ne_of_lt ak.lt
  have ak := ak.x_alloc e9
  have b4 := Nat.ne_of_lt ap.lt
  have ap := ap.x_alloc e9
  have c2 := c0.x_alloc e9
  refine Q0g (k := 0) (j := 0) au (Nat.le_of_ble_eq_true rfl) fun b9 br c8 => ?_
  have bw := c2.x_puts br (.inr bz)
  have ak := ak.x_puts br b2
  have ap := ap.x_puts br b4
  have au : Blk b9 b3.heap.size 67 [.int .i64 al, .int .i64 ax, .int .u64 a5, .int .i64 ah, .slice none 0 0, .slice ao an am] := c8
  have h := h b9 (w.heap.size) (be.heap.size) (b3.heap.size) bw (Priv.cons ca ak.lt (Priv.cons c5 ap.lt (Priv.cons bz au.lt Priv.nil)))
  obtain ⟨I0, cb, h0, h⟩ := h
  refine ⟨fun k vs ww => ∃ (aw ay ae aj : Int) (ad : Option Addr) (ag af : Nat) (av : Option Addr) (ar aq : Nat) (a9 ai a0 a4 : Int) (a1 : Option Addr) (a2 a3 : Nat) (ac : Option Addr) (ab aa : Nat), Blk ww w.heap.size 52 [.int .i64 al, .int .i64 ax, .int .u64 a5, .int .i64 ah, .slice a7 a8 a6, .slice ao an am] ∧ Blk ww be.heap.size 67 [.int .i64 aw, .int .i64 ay, .int .u64 ae, .int .i64 aj, .slice ad ag af, .slice av ar aq] ∧ Blk ww b3.heap.size 67 [.int .i64 a9, .int .i64 ai, .int .u64 a0, .int .i64 a4, .slice a1 a2 a3, .slice ac ab aa] ∧ I0 k (vs ++ [.int .i64 aw, .int .i64 ay, .int .u64 ae, .int .i64 aj, .slice ad ag af, .slice av ar aq, .int .i64 a9, .int .i64 ai, .int .u64 a0, .int .i64 a4, .slice a1 a2 a3, .slice ac ab aa]) ww, cb, ⟨0, 0, 0, 0, none, 0, 0, none, 0, 0, al, ax, a5, ah, none, 0, 0, ao, an, am, ak, ap, au, h0⟩, fun c9 az cd hI => ?_⟩
  obtain ⟨aw, ay, ae, aj, ad, ag, af, av, ar, aq, a9, ai, a0, a4, a1, a2, a3, ac, ab, aa, ak, ap, au, hI⟩ := hI
  have h := h c9 az cd aw ay ae aj ad ag af av ar aq a9 ai a0 a4 a1 a2 a3 ac ab aa hI
  refine ⟨a7, a8, a6, ak.celli 4 rfl rfl, ?_⟩
  refine bif_fo (fun bh => ?_) (fun bh => ?_)
  ·have h := h.2 (Int.not_lt.1 (of_decide_eq_false bh))
   refine ⟨a9, ai, a0, a4, a1, a2, a3, ac, ab, aa, ⟨au.celli 0 rfl rfl, au.celli 1 rfl rfl, au.celli 2 rfl rfl, au.celli 3 rfl rfl, au.celli 4 rfl rfl, au.celli 5 rfl rfl, trivial⟩, ?_⟩
   have bo : Ext (fun b => b = be.heap.size) az az := ((Ext.refl no az)).none
   refine Q0g (k := 0) (j := 0) ap (Nat.le_of_ble_eq_true rfl) fun bb c7 c4 => ?_
   have bk := bo.x_puts c7 (.inl rfl)
   have ap : Blk bb be.heap.size 67 [.int .i64 a9, .int .i64 ai, .int .u64 a0, .int .i64 a4, .slice a1 a2 a3, .slice ac ab aa] := c4
   refine ⟨a9, ai, a0, a4, a1, a2, a3, ac, ab, aa, ⟨ap.celli 0 rfl rfl, ap.celli 1 rfl rfl, ap.celli 2 rfl rfl, ap.celli 3 rfl rfl, ap.celli 4 rfl rfl, ap.celli 5 rfl rfl, trivial⟩, ?_⟩
   have h := h bb bk
   exact h
  have h := h.1 (of_decide_eq_true bh)
  unfold Q0J.J1
  refine Q01 fun bn bf => ?_
  have b0 := (Ext.refl no az).x_drew bf
  have ak := ak.x_drew bf
  have ap := ap.x_drew bf
  have au := au.x_drew bf
  refine ⟨a1, a2, a3, au.celli 4 rfl rfl, ?_⟩
  refine ⟨a7, a8, a6, ak.celli 4 rfl rfl, ?_⟩
  obtain ⟨ce, bd, h⟩ := h
  refine Q03 bd ?_
  obtain ⟨bm, bv, h⟩ := h
  refine ⟨bm, bv, ?_⟩
  obtain ⟨bc, bl, h⟩ := h
  refine ⟨bc, (b0).cell bl id, ?_⟩
  refine ⟨a7, a8, a6, ak.celli 4 rfl rfl, ?_⟩
  refine Q03 bd ?_
  obtain ⟨bm, bv, h⟩ := h
  refine ⟨bm, bv, ?_⟩
  obtain ⟨bj, bt, bq, bs, h⟩ := h
  refine ⟨bj, bt, bq, (b0).cell bs id, ?_⟩
  refine Q01 fun bu b8 => ?_
  have ak := ak.x_alloc b8
  have ap := ap.x_alloc b8
  have au := au.x_alloc b8
  have h := h bu bn.heap.size (b0.x_alloc b8) (Blk.of_new b8) (b0).size (Q0w b8)
  refine ⟨au.celli 4 rfl rfl, ?_⟩
  obtain ⟨b6, b7, b5, b1, hr, hk, h⟩ := h
  refine ⟨b6, b7, b5, b1, hr, ?_⟩
  have ak := hk.blk ak (by simp)
  have ap := hk.blk ap (by simp)
  have au := hk.blk au (by simp)
  have bp : Ext (fun b => b = b3.heap.size) b1 b1 := ((Ext.refl no b1)).none
  refine ⟨au.cani 4 rfl rfl, Q01 fun ba bg => ?_⟩
  have bi := bp.x_set (q := b3.heap.size) (i := 4) rfl (.inl rfl) bg
  have ak := ak.oth (q := b3.heap.size) (i := 4) rfl b2 bg
  have ap := ap.oth (q := b3.heap.size) (i := 4) rfl b4 bg
  have au : Blk ba b3.heap.size 67 [.int .i64 a9, .int .i64 ai, .int .u64 a0, .int .i64 a4, .slice b6 b7 b5, .slice ac ab aa] := au.seti 4 rfl bg
  obtain ⟨cc, c6, h⟩ := h
  try rw [w64 cc c6]
  have h := h ba bi
  obtain ⟨c3, hk, h⟩ := h
  exact ⟨c3, hk, aw, ay, ae, aj, ad, ag, af, av, ar, aq, a9, ai, a0, a4, b6, b7, b5, ac, ab, aa, ak, ap, au, h⟩

theorem Q0J.go (a6 a9 a2 a4 : Int) (a0 : Option Addr) (a3 a1 : Nat) (a7 : Option Addr) (a8 a5 : Nat) {R : RW} {w : World} (h : Q0J.N a6 a9 a2 a4 a0 a3 a1 a7 a8 a5 R w) : Calls Try.prog 15 #[.agg #[.int .i64 a6, .int .i64 a9, .int .u64 a2, .int .i64 a4, .slice a0 a3 a1, .slice a7 a8 a5]] w fun e w' => ∃ v, e = .returned v ∧ R v w' := Q0J.ok a6 a9 a2 a4 a0 a3 a1 a7 a8 a5 (Q0J.up a6 a9 a2 a4 a0 a3 a1 a7 a8 a5 h)
end Go.Proofs.Ytaifegpikhjiiaa
set_option linter.unusedSectionVars false
namespace Go.Mx
open Go
section
variable {P : Program} {w w' : World} {b o sz : Nat} {t e : TypeId} {cur cs : List Value}
theorem Q1j : ∀ {cs cur : List Value} {o : Nat} {w : World}, Blk w b t cur → o + cs.length ≤ cur.length → Blk (w.setCells b o cs) b t (setAll cur o cs) ∧ Ext (fun x => x = b) w (w.setCells b o cs)
  | [], cur, o, w, hb, _ => ⟨hb, Ext.refl _ _⟩
  | v :: r, cur, o, w, hb, hl => by
    simp only [List.length_cons] at hl
    have hb2 := hb.set o v
    have X := (Ext.refl (fun x => x = b) w).setCell (a := ⟨b, o, none⟩) (.inl rfl) v
    obtain ⟨h1, h2⟩ := Q1j (cs := r) (o := o + 1) hb2 (by rw [List.length_set]; omega)
    exact ⟨h1, X.trans h2⟩
theorem Q1F {dT sT ty elem : TypeId} {dLen dCap sLen sCap n : Nat} {a : Addr} {i : TypeInfo} (hu : P.underlying dT = some (.slice elem)) (hi : P.info? elem = some i) (hs : i.size = sz) (hm : Nat.min sLen dLen = n) (hn : cs.length = n * sz)
    (hsrc : ∀ j v, cs[j]? = some v → w.cell? (a.add j) = some v) (hb : Blk w b t cur) (hl : o + cs.length ≤ cur.length) (h1 : ∀ v ∈ cs, v.oneCell' = true) :
    (Builtin.copy_ #[dT, sT] ty #[.slice (some ⟨b, o, none⟩) dLen dCap, .slice (some a) sLen sCap]).run P w = .ok (goInt n) (w.setCells b o cs) := by
  have hfc := run_firstCells_some (P := P) w sz n a sLen sCap cs hn hsrc
  have hcan : ∀ j, j < cs.length → Q07 w ⟨b, o + j, none⟩ := fun j hj => hb.can (v := cur[o + j]'(by omega)) (List.getElem?_eq_getElem (by omega))
  have hst := run_storeCells_cells (P := P) b o cs 0 w (fun j hj => by obtain ⟨⟨u, hu⟩, _⟩ := hcan j hj; simp [hu]) (fun j hj => by simpa using (hcan j hj).2) h1
  simp only [Nat.add_zero] at hst
  simp [Builtin.copy_, run_underlying hu, Builtin.lenOf, sizeOf, typeInfo, hi, hs, hm, hfc, hst]
theorem Q21 {u x y v : List Value} (h : v.length = x.length) : setAll (u ++ x ++ y) u.length v = u ++ v ++ y := by
  have := Q1T (vs := v) (u := u) (cs := x ++ y) (k := 0)
  rw [Nat.add_zero] at this
  rw [List.append_assoc, this, Q3f h, List.append_assoc]
theorem Q3r {t tn ty : TypeId} {i : TypeInfo} {z : Value} {kq kn : IntKind} {bytes : Nat} (ht : P.underlying t = some (.slice e)) (htn : P.underlying tn = some (.int kn)) (hi : P.info? e = some i) (hz : i.zero = some z) (hsize : i.size = sz) (hby : i.bytes = bytes) (hzs : z.cells.size = sz) (hsz : 0 < sz)
    {a : Option Addr} {n c k : Nat} (hr : RowAt w a cs) (hl : cs.length = n * sz) (ha : a ≠ none) (hk : 0 < k) (hg : c < n + k) (hb : (n + k) * bytes ≤ 140737488355328) (h63 : n + k ≤ 1000000000) :
    ∃ c' w', (Builtin.append_ #[t, tn] ty #[.slice a n c, .int kq k]).run P w = .ok (.slice (some ⟨w.heap.size, 0, none⟩) (n + k) c') w' ∧ Ext no w w' ∧ w.heap.size < w'.heap.size ∧ n + k ≤ c' ∧ c' ≤ maxLen ∧ ∃ zs : List Value, Blk w' w.heap.size e (cs ++ zs) ∧ (cs ++ zs).length = c' * sz := by
  obtain ⟨ad, rfl⟩ := Option.ne_none_iff_exists'.1 ha
  subst hsize
  subst hby
  have hold := run_firstCells_some (P := P) w.drew i.size n ad n c cs hl fun j v hj => hr.at_ hj
  have hfit := growslice_fits hg hb
  have hgc := grownCap_ge w (n + k) c e
  have hrun := Lib.run_append_grow_zeros (P := P) w t tn ty e i z kq kn ht htn hi hz (some ad) n c cs (by
    have := run_firstCells_some (P := P) w.drew i.size n ad n c cs hl fun j v hj => hr.at_ hj
    simpa [Builtin.firstCells] using this) k hk hsz hg (by omega) (by
      have : k * i.bytes ≤ (n + k) * i.bytes := Nat.mul_le_mul_right _ (by omega)
      omega) hfit
  refine ⟨_, _, hrun, ?_, ?_, hgc, grownCap_le_maxLen w (n + k) c e (by unfold maxLen; omega), (Builtin.zeroCells z.cells k).toList ++ (Builtin.zeroCells z.cells (grownCap w (n + k) c e - (n + k))).toList, ?_, ?_⟩
  · exact (Ext.refl no w).drew.alloc _
  · simp
  · have : Blk (w.drew.alloc (.cells (cs.toArray ++ Builtin.zeroCells z.cells k ++ Builtin.zeroCells z.cells (grownCap w (n + k) c e - (n + k))) e)) w.heap.size e (cs ++ ((Builtin.zeroCells z.cells k).toList ++ (Builtin.zeroCells z.cells (grownCap w (n + k) c e - (n + k))).toList)) := by
      unfold Blk
      have := heap_alloc_new w.drew (.cells (cs.toArray ++ Builtin.zeroCells z.cells k ++ Builtin.zeroCells z.cells (grownCap w (n + k) c e - (n + k))) e)
      refine this.trans ?_
      congr 2
      apply Array.ext'
      simp [List.append_assoc]
    exact this
  · simp only [List.length_append, Array.length_toList, size_zeroCells, hzs, hl]
    rw [← Nat.add_mul, ← Nat.add_mul]
    congr 1
    omega
theorem LRow.set {e : TypeId} {N n c j : Nat} {w : World} {o : Own} {a : Option Addr} {cs : List Value} (h : LRow e sz N w o a n c cs) (ok : Tags w o) (hj : j < cs.length) (v : Value) :
    ∃ ad, a = some ad ∧ Q07 w (ad.add j) ∧ (∀ k, o ad.block = some k → N ≤ k) ∧ (o ad.block).isSome = true ∧ ∀ w', w' = w.setCell (ad.add j) v → Step (fun i => N ≤ i) w o w' (grow w o) ∧ LRow e sz N w' (grow w o) a n c (cs.set j v) ∧ Ext (fun b => b = ad.block) w w' := by
  rcases h with ⟨rfl, rfl, rfl, rfl⟩ | ⟨k, h1, h2, h⟩
  · simp at hj
  have hl := h.own.1
  rcases h.own.2 with ⟨hv, h0⟩ | ⟨g, cap, cur, hv, _, hgb, hnc, hcm, hcs, htk⟩
  · rw [h0] at hl; omega
  cases hv
  have tg := h.tg ⟨g, 0, none⟩ rfl
  have hblk : Blk w g e cur.toList := by unfold Blk; simpa using hgb
  have hcl : cur.toList.length = c * sz := by simpa using hcs
  have hjc : j < cur.toList.length := by
    have := congrArg List.length htk
    rw [List.length_take] at this
    omega
  have hadd : (⟨g, 0, none⟩ : Addr).add j = ⟨g, j, none⟩ := by simp [Addr.add_lit]
  refine ⟨_, rfl, by rw [hadd]; exact hblk.can (v := cur.toList[j]) (List.getElem?_eq_getElem hjc), fun k' hk' => ?_, by rw [tg.1]; rfl, fun w' hw' => ?_⟩
  · have : some k = some k' := tg.1.symm.trans hk'
    cases this; exact h1
  have X : Ext (fun b => b = g) w w' := by subst hw'; rw [hadd]; exact (Ext.refl (fun b => b = g) w).setCell (a := ⟨g, j, none⟩) (.inl rfl) v
  have s : Step (fun i => i = k) w o w' (grow w o) := Step.of_ext X ok fun b hb _ => by subst hb; exact tg.1
  have hb2 : Blk w' g e (cur.toList.set j v) := by subst hw'; rw [hadd]; exact hblk.set j v
  refine ⟨s.mono fun i hi _ => by omega, .inr ⟨k, h1, Nat.lt_of_lt_of_le h2 s.size, ⟨by rw [List.length_set]; exact hl, .inr ⟨g, c, _, rfl, Nat.zero_le _, hb2, hnc, hcm, by simpa using hcs, ?_⟩⟩, fun ad ha => ?_⟩, X⟩
  · show (cur.toList.set j v).take (n * sz) = cs.set j v
    rw [← htk, List.take_set]
  · cases ha; exact ⟨(s.own tg.2).trans tg.1, Nat.lt_of_lt_of_le tg.2 s.size⟩
theorem Q61 {tS tR : TypeId} (ht : P.underlying tS = some (.slice e)) {i : TypeInfo} (hi : P.info? e = some i) {qa qb la ca lb cb oa ob : Nat} {ca' cb' : List Value} (ha : Blk w qa e ca') (hb : Blk w qb e cb') (hne : qa ≠ qb) (hcb : cb' ≠ [])
    {k : FuncId} {fn : Func} (hf : P.funcs[k]? = some fn) (hname : (fn.name == "runtime.NumGoroutine") = false) (hbd : fn.body.isNone = true) (hn : Extern.findNext fn = none) (he : Extern.find fn = some (Extern.SlicesOverlaps.overlaps #[tS, tS] #[tR])) :
    (Q1f k #[.slice (some ⟨qa, oa, none⟩) la ca, .slice (some ⟨qb, ob, none⟩) lb cb]).run P w = .ok (.bool false) w := by
  unfold Blk at ha hb
  have h := Lib.run_overlaps_apart (P := P) w tS tR e ht i.size (fun w => by simp [sizeOf, typeInfo, hi]) ⟨qa, oa, none⟩ ⟨qb, ob, none⟩ la ca lb cb hne e e ca'.length cb'.length (by simp [World.shape?, ha]) (by simp [World.shape?, hb]) (by intro h; exact hcb (List.eq_nil_of_length_eq_zero h))
    (by simp [World.frozen?, ha]) (by simp [World.frozen?, ha])
  unfold Q1f
  simp only [Sem.run_bind, run_callFunc_extern hf hname hbd hn he, h, Result.andThen_ok]
  rfl
end
end Go.Mx
namespace Go.Proofs.Ytaifegpikhjiiaa
open Go Go.Mx Go.Proofs
open W (OwnB)
theorem inf70 : (Try.prog.info? 70).map (fun i => (i.zero, i.size, i.bytes)) = some (some (.agg #[.int .i64 0, .int .u64 0, .int .i64 0, .int .i64 0, .int .i64 0]), 5, 40) := by kernel_rfl
theorem inf60 : (Try.prog.info? 60).map (fun i => (i.zero, i.size, i.bytes)) = some (some (.agg #[.int .i64 0, .slice none 0 0]), 2, 32) := by kernel_rfl
structure Mem where
  who : Int
  pub : Int
  fr : Int
  to_ : Int
  lim : Int
deriving DecidableEq
def Mem.C (m : Mem) : List Value := [.int .i64 m.who, .int .u64 m.pub, .int .i64 m.fr, .int .i64 m.to_, .int .i64 m.lim]
theorem Mem.len (m : Mem) : m.C.length = 5 := rfl
theorem Mem.one (m : Mem) : ∀ u ∈ m.C, u.oneCell' = true := fun u hu => by
  simp only [Mem.C, List.mem_cons, List.not_mem_nil, or_false] at hu
  rcases hu with rfl | rfl | rfl | rfl | rfl <;> rfl
theorem Mems.one {l : List Mem} : ∀ u ∈ l.flatMap Mem.C, u.oneCell' = true := fun u hu => by
  obtain ⟨m, _, hm⟩ := List.mem_flatMap.1 hu
  exact m.one u hm
structure Wr where
  who : Int
  a : Option Addr
  c : Nat
  b : List UInt8
def Wr.C (x : Wr) : List Value := [.int .i64 x.who, .slice x.a x.b.length x.c]
def Wr.p (x : Wr) : Int × List UInt8 := (x.who, x.b)
theorem Wr.len (x : Wr) : x.C.length = 2 := rfl
structure Chg where
  kd : Int
  who : Int
  pub : Int
  lim : Int
  ws : List (Int × List UInt8)
  old : List UInt8
def boxesGo (last : Int) : List (Int × List UInt8) → Bool
  | [] => true
  | x :: r => decide (0 ≤ x.1 ∧ x.1 < 8) && decide (last < x.1) && decide (x.2.length = 16) && boxesGo x.1 r
def boxesP (l : List (Int × List UInt8)) : Bool := boxesGo (-1) l && decide (l ≠ [])
def rightM (c : Chg) : Bool :=
  if 0 ≤ c.who ∧ c.who < 8 then
    (if (c.kd == 3) = boxesP c.ws then
      (if c.kd ≠ 3 ∧ ¬ (c.ws = [] ∧ c.old = []) then false
       else if c.kd = 1 then decide (c.pub ≠ 0 ∧ c.lim = 0)
       else if c.kd = 2 then decide (c.who ≠ 0 ∧ c.pub = 0 ∧ 0 ≤ c.lim ∧ c.lim ≤ 200)
       else if c.kd = 3 then decide (c.who = 0 ∧ c.pub = 0 ∧ c.lim = 0 ∧ (c.old.length = 0 ∨ c.old.length = 24))
       else false)
     else false)
  else false
def Sorted (l : List Mem) : Prop := l.Pairwise fun a b => a.who < b.who
def findI (l : List Mem) (x : Int) : Nat := (l.takeWhile fun m => decide (m.who < x)).length
def isAt (l : List Mem) (x : Int) : Bool := match l[findI l x]? with | some m => decide (m.who = x) | none => false
section
variable {w w' w1 : World} {o o' o1 : Own} {a : Option Addr} {c N : Nat} {l : List Wr} {ml : List Mem}
theorem Q2s (l : List Mem) (x : Int) : findI l x ≤ l.length := (List.takeWhile_sublist _).length_le
theorem Q4W {l : List Mem} {x : Int} {i : Nat} {m : Mem} (h : l[i]? = some m) (hi : i < findI l x) : m.who < x := by
  unfold findI at hi
  induction l generalizing i with
  | nil => simp at h
  | cons y r ih =>
    rw [List.takeWhile_cons] at hi
    by_cases hy : y.who < x
    · rw [if_pos (by simpa using hy)] at hi
      cases i with
      | zero => simp at h; subst h; exact hy
      | succ i => exact ih (by simpa using h) (by simpa using hi)
    · rw [if_neg (by simpa using hy)] at hi; simp at hi
theorem Q3Z {l : List Mem} {x : Int} {m : Mem} (h : l[findI l x]? = some m) : x ≤ m.who := by
  unfold findI at h
  induction l with
  | nil => simp at h
  | cons y r ih =>
    rw [List.takeWhile_cons] at h
    by_cases hy : y.who < x
    · rw [if_pos (by simpa using hy)] at h; exact ih (by simpa using h)
    · rw [if_neg (by simpa using hy)] at h; simp at h; subst h; omega
theorem Q4R {l : List Mem} {x : Int} {i : Nat} (hi : i ≤ l.length) (h1 : ∀ j m, j < i → l[j]? = some m → m.who < x) (h2 : ∀ m, l[i]? = some m → x ≤ m.who) : findI l x = i := by
  rcases Nat.lt_trichotomy (findI l x) i with h | h | h
  · have hlt : findI l x < l.length := by omega
    have h3 := Q3Z (List.getElem?_eq_getElem hlt)
    have h4 := h1 _ _ h (List.getElem?_eq_getElem hlt)
    omega
  · exact h
  · have hlt : i < l.length := by have := Q2s l x; omega
    have h3 := Q4W (List.getElem?_eq_getElem hlt) h
    have h4 := h2 _ (List.getElem?_eq_getElem hlt)
    omega
theorem Sorted.get {l : List Mem} (h : Sorted l) {i j : Nat} {x y : Mem} (hi : l[i]? = some x) (hj : l[j]? = some y) (hij : i < j) : x.who < y.who := by
  obtain ⟨h1, rfl⟩ := List.getElem?_eq_some_iff.1 hi
  obtain ⟨h2, rfl⟩ := List.getElem?_eq_some_iff.1 hj
  exact List.pairwise_iff_getElem.1 h i j h1 h2 hij
theorem Q3k (x : Int) : Q0q.F x = decide (0 ≤ x ∧ x < 8) := by
  unfold Q0q.F
  by_cases h : x ≥ 0
  · rw [if_pos h]
    by_cases h2 : x < 8 <;> simp [h2] <;> omega
  · rw [if_neg h]
    rw [eq_comm, decide_eq_false_iff_not]; omega
theorem Q2G {l : List (Int × List UInt8)} {t : Nat} (ht : t < l.length) (last : Int) : boxesGo last (l.drop t) = (decide (0 ≤ l[t].1 ∧ l[t].1 < 8) && decide (last < l[t].1) && decide (l[t].2.length = 16) && boxesGo l[t].1 (l.drop (t + 1))) := by
  rw [List.drop_eq_getElem_cons ht]; rfl
theorem Q5l (hr : RowAt w a (l.flatMap Wr.C)) (hl : l.length < 1000000) :
    Calls Try.prog 64 #[.slice a l.length c] w (Ret (.bool (boxesP (l.map Wr.p))) fun w' => Ext no w w') := by
  refine Q0Y.run _ _ _ ?_
  unfold Q0Y.N
  refine ⟨fun m vs w1 => ∃ (t : Nat) (last : Int), vs = [.int .i64 last, .int .i64 t] ∧ m + t = l.length ∧ Ext no w w1 ∧ boxesGo last ((l.map Wr.p).drop t) = boxesGo (-1) (l.map Wr.p), l.length, ⟨0, -1, rfl, rfl, Ext.refl _ _, rfl⟩, ?_⟩
  rintro m w1 la i ⟨t, last, hi, hm, X1, hB⟩
  simp only [List.cons.injEq, Value.int.injEq, true_and, and_true] at hi
  obtain ⟨rfl, rfl⟩ := hi
  refine ⟨fun ht => ?_, fun ht => ?_⟩
  · have htl : t < l.length := by omega
    have hg : l[t]? = some l[t] := List.getElem?_eq_getElem htl
    rw [Q2G (by simpa using htl)] at hB
    have e1 : (l.map Wr.p)[t]'(by simpa using htl) = l[t].p := by simp
    rw [e1] at hB
    generalize l[t] = x at *
    obtain ⟨ad, rfl⟩ := hr.faddr Wr.len (by decide) htl
    refine ⟨ad, rfl, by omega, by omega, x.who, x.a, x.b.length, x.c, by rw [Int.toNat_natCast]; exact (hr.no X1).floads Wr.len hg, fun h1 w2 X2 => ?_, fun h1 => ⟨fun h2 w2 X2 => ?_, fun h2 => ⟨fun h3 w2 X2 => ?_, fun h3 => ⟨by omega, by omega, fun w2 X2 => ?_⟩⟩⟩⟩
    · rw [Q3k] at h1
      refine ⟨?_, X1.trans X2⟩
      unfold boxesP; rw [← hB, show decide (0 ≤ x.p.1 ∧ x.p.1 < 8) = false from h1]; rfl
    · refine ⟨?_, X1.trans X2⟩
      unfold boxesP; rw [← hB, show decide (la < x.p.1) = false from decide_eq_false (by show ¬ la < x.who; omega)]; simp
    · refine ⟨?_, X1.trans X2⟩
      unfold boxesP; rw [← hB, show decide (x.p.2.length = 16) = false from decide_eq_false (by show ¬ x.b.length = 16; omega)]; simp
    · rw [Q3k] at h1
      refine ⟨m - 1, by omega, t + 1, x.who, rfl, by omega, X1.trans X2, ?_⟩
      rw [← hB, show decide (0 ≤ x.p.1 ∧ x.p.1 < 8) = true from h1, show decide (la < x.p.1) = true from decide_eq_true (show la < x.who by omega), show decide (x.p.2.length = 16) = true from decide_eq_true (show x.b.length = 16 by omega)]
      rfl
  · obtain rfl : t = l.length := by omega
    rw [List.drop_of_length_le (by simp)] at hB
    refine ⟨?_, X1⟩
    unfold boxesP; rw [← hB]
    cases l <;> simp [boxesGo]
def chgV (c : Chg) (wa : Option Addr) (wc : Nat) (oa : Option Addr) (oc : Nat) : Value := .agg #[.int .i64 c.kd, .int .i64 c.who, .int .u64 c.pub, .int .i64 c.lim, .slice wa c.ws.length wc, .slice oa c.old.length oc]
theorem Q3B {cg : Chg} {wa oa : Option Addr} {wc oc : Nat} (hr : RowAt w wa (l.flatMap Wr.C)) (hl : l.map Wr.p = cg.ws) (hn : l.length < 1000000) (ho : cg.old.length < 1000000) :
    Calls Try.prog 34 #[chgV cg wa wc oa oc] w (Ret (.bool (rightM cg)) fun w' => Ext no w w') := by
  refine Q10.run cg.kd cg.who cg.pub cg.lim wa cg.ws.length wc oa cg.old.length oc ?_
  unfold Q10.N
  rw [Q3k]
  have hlen : l.length = cg.ws.length := by rw [← hl]; simp
  refine ⟨fun h w9 X => ⟨?_, X⟩, fun h w9 p12 X9 hp => ?_⟩
  · unfold rightM; rw [if_neg (of_decide_eq_false h)]
  have hw := of_decide_eq_true h
  rw [← hlen]
  refine (Q5l (hr.no X9) hn).mono fun x w15 ⟨he, X15⟩ => ⟨_, he, X15.kept, fun hne => ?_, fun heq => ?_⟩
  · rw [hl] at hne
    exact ⟨by unfold rightM; rw [if_pos hw, if_neg hne], X9.trans X15⟩
  rw [hl] at heq
  have X := X9.trans X15
  have hM : rightM cg = (if cg.kd ≠ 3 ∧ ¬ (cg.ws = [] ∧ cg.old = []) then false
       else if cg.kd = 1 then decide (cg.pub ≠ 0 ∧ cg.lim = 0)
       else if cg.kd = 2 then decide (cg.who ≠ 0 ∧ cg.pub = 0 ∧ 0 ≤ cg.lim ∧ cg.lim ≤ 200)
       else if cg.kd = 3 then decide (cg.who = 0 ∧ cg.pub = 0 ∧ cg.lim = 0 ∧ (cg.old.length = 0 ∨ cg.old.length = 24))
       else false) := by unfold rightM; rw [if_pos hw, if_pos heq]
  have hz : cg.ws = [] ↔ cg.ws.length = 0 := List.length_eq_zero_iff.symm
  have hz2 : cg.old = [] ↔ cg.old.length = 0 := List.length_eq_zero_iff.symm
  refine ⟨fun h3 => ⟨by omega, by omega, fun hpos => ⟨?_, X⟩, fun hpos => ?_⟩, fun h3 => ?_⟩
  · rw [hM, if_pos ⟨h3, fun hh => by rw [hz, hz2] at hh; omega⟩]
  · rw [if_neg (fun hh => hh.2 ⟨hz.2 (by omega), hz2.2 (by omega)⟩)] at hM
    rw [hM]
    refine ⟨fun h1 => ⟨fun hp => ⟨?_, X⟩, fun hp => ⟨?_, X⟩⟩, fun h1 => ⟨fun h2 => ⟨fun hw0 => ⟨fun hp => ⟨fun hl0 => ⟨?_, X⟩, fun hl0 => ⟨?_, X⟩⟩, fun hp => ⟨?_, X⟩⟩, fun hw0 => ⟨?_, X⟩⟩, fun h2 => ⟨fun h => absurd h h3, fun _ => ⟨?_, X⟩⟩⟩⟩
    · rw [if_pos h1]; simp [hp, Bool.beq_eq_decide_eq]
    · rw [if_pos h1]; simp [hp]
    · rw [if_neg h1, if_pos h2]; congr 1; simp [hw0, hp]; omega
    · rw [if_neg h1, if_pos h2]; congr 1; rw [eq_comm, decide_eq_false_iff_not]; omega
    · rw [if_neg h1, if_pos h2]; congr 1; rw [eq_comm, decide_eq_false_iff_not]; exact fun hh => hp hh.2.1
    · rw [if_neg h1, if_pos h2]; congr 1; rw [eq_comm, decide_eq_false_iff_not]; exact fun hh => hh.1 hw0
    · rw [if_neg h1, if_neg h2, if_neg h3]
  · rw [if_neg (fun hh => hh.1 h3), if_neg (by omega), if_neg (by omega), if_pos h3] at hM
    rw [hM]
    refine ⟨fun h => by omega, fun _ => ⟨fun h => by omega, fun _ => ⟨fun _ => ⟨fun hw0 => ⟨fun hp => ⟨fun hl0 => ⟨fun ho0 => ⟨?_, X⟩, fun ho0 => ⟨?_, X⟩⟩, fun hl0 => ⟨?_, X⟩⟩, fun hp => ⟨?_, X⟩⟩, fun hw0 => ⟨?_, X⟩⟩, fun h => absurd h3 h⟩⟩⟩
    · congr 1; rw [eq_comm, decide_eq_true_eq]; exact ⟨hw0, hp, hl0, .inl (by omega)⟩
    · congr 1
      by_cases h24 : cg.old.length = 24
      · rw [h24]; simp [hw0, hp, hl0]
      · have : ((cg.old.length : Int) == 24) = false := by simpa using (show (cg.old.length : Int) ≠ 24 by omega)
        rw [this, eq_comm, decide_eq_false_iff_not]; omega
    · congr 1; rw [eq_comm, decide_eq_false_iff_not]; omega
    · congr 1; rw [eq_comm, decide_eq_false_iff_not]; omega
    · congr 1; rw [eq_comm, decide_eq_false_iff_not]; omega
theorem cmp_F (x y : Int) : Q0p.F x y = if x < y then -1 else if x > y then 1 else 0 := by
  unfold Q0p.F Q0t.F; simp
theorem Q3J (m : Mem) (x : Int) : Calls Try.prog 74 #[.agg #[.int .i64 m.who, .int .u64 m.pub, .int .i64 m.fr, .int .i64 m.to_, .int .i64 m.lim], .int .i64 x] w (Ret (.int .i64 (Q0p.F m.who x)) fun w' => Ext no w w') := by
  refine Q0E.run m.who m.pub m.fr m.to_ m.lim x ?_
  unfold Q0E.N
  exact fun w' X => ⟨rfl, X⟩
theorem BS_spec (hr : RowAt w a (ml.flatMap Mem.C)) (hs : Sorted ml) (hl : ml.length < 1000000) (x : Int) :
    Calls Try.prog 73 #[.slice a ml.length c, .int .i64 x, .func (.func 74) #[] #[]] w (Ret (.tuple #[.int .i64 (findI ml x : Int), .bool (isAt ml x)]) fun w' => Ext no w w') := by
  refine Q05.run a ml.length c x _ _ _ ?_
  unfold Q05.N
  refine ⟨fun m vs w1 => ∃ (i j : Nat), vs = [.int .i64 i, .int .i64 j] ∧ m + i = j ∧ j ≤ ml.length ∧ Ext no w w1 ∧ (∀ k z, k < i → ml[k]? = some z → z.who < x) ∧ (∀ k z, j ≤ k → ml[k]? = some z → x ≤ z.who), ml.length, ⟨0, ml.length, rfl, rfl, Nat.le_refl _, Ext.refl _ _, fun k z hk => by omega, fun k z hk hz => by have := (List.getElem?_eq_some_iff.1 hz).1; omega⟩, ?_⟩
  rintro m w1 i0 j0 ⟨i, j, hi, hm, hj, X1, h1, h2⟩
  simp only [List.cons.injEq, Value.int.injEq, true_and, and_true] at hi
  obtain ⟨rfl, rfl⟩ := hi
  refine ⟨fun hij => ?_, fun hij => ?_⟩
  · rw [wu64 (by omega) (by omega)]
    have hh : (((i : Int) + (j : Int)) / 2).toNat = (i + j) / 2 := by omega
    have hlt : (i + j) / 2 < ml.length := by omega
    have hg : ml[(i + j) / 2]? = some ml[(i + j) / 2] := List.getElem?_eq_getElem hlt
    obtain ⟨ad, rfl⟩ := hr.faddr Mem.len (by decide) hlt
    generalize ml[(i + j) / 2] = y at *
    refine ⟨by omega, by omega, by omega, by omega, ad, rfl, by omega, by omega, y.who, y.pub, y.fr, y.to_, y.lim, by rw [hh]; exact (hr.no X1).floads Mem.len hg, by kernel_rfl, ?_⟩
    refine (Q3J y x).mono fun e w19 ⟨he, X19⟩ => ⟨_, he, fun hneg => ⟨by omega, by omega, j - ((i + j) / 2 + 1), by omega, (i + j) / 2 + 1, j, ?_, by omega, hj, X1.trans X19, fun k z hk hz => ?_, h2⟩, fun hpos => ⟨(i + j) / 2 - i, by omega, i, (i + j) / 2, ?_, by omega, by omega, X1.trans X19, h1, fun k z hk hz => ?_⟩⟩
    · simp
    · rw [cmp_F] at hneg
      have hy : y.who < x := by by_cases h : y.who < x; exact h; rw [if_neg h] at hneg; split at hneg <;> omega
      rcases Nat.lt_or_ge k ((i + j) / 2) with hk2 | hk2
      · have := hs.get hz hg hk2; omega
      · have : k = (i + j) / 2 := by omega
        subst this; rw [hg] at hz; cases hz; exact hy
    · simp
    · rw [cmp_F] at hpos
      have hy : ¬ y.who < x := fun h => by rw [if_pos h] at hpos; omega
      rcases Nat.lt_or_ge ((i + j) / 2) k with hk2 | hk2
      · have := hs.get hg hz hk2; omega
      · have : k = (i + j) / 2 := by omega
        subst this; rw [hg] at hz; cases hz; omega
  · have hij2 : i = j := by omega
    subst hij2
    have hI : findI ml x = i := Q4R hj (fun k z hk hz => h1 k z hk hz) fun z hz => h2 i z (Nat.le_refl _) hz
    refine ⟨fun hlt => ?_, fun hge => ⟨?_, X1⟩⟩
    · have hlt2 : i < ml.length := by omega
      have hg : ml[i]? = some ml[i] := List.getElem?_eq_getElem hlt2
      obtain ⟨ad, rfl⟩ := hr.faddr Mem.len (by decide) hlt2
      have hisat : isAt ml x = decide (ml[i].who = x) := by unfold isAt; rw [hI, hg]
      generalize ml[i] = y at *
      refine ⟨ad, rfl, by omega, by omega, y.who, y.pub, y.fr, y.to_, y.lim, by rw [Int.toNat_natCast]; exact (hr.no X1).floads Mem.len hg, by kernel_rfl, ?_⟩
      refine (Q3J y x).mono fun e w19 ⟨he, X19⟩ => ⟨_, he, ?_, X1.trans X19⟩
      rw [hI, hisat, cmp_F]
      congr 3
      by_cases h : y.who < x
      · rw [if_pos h]; simp; omega
      · rw [if_neg h]
        by_cases h' : y.who > x
        · rw [if_pos h']; simp; omega
        · rw [if_neg h']; simp; omega
    · have hn : ml[i]? = none := List.getElem?_eq_none (by omega)
      have : isAt ml x = false := by unfold isAt; rw [hI, hn]
      rw [hI, this]
theorem Q4x (hr : RowAt w a (ml.flatMap Mem.C)) (hs : Sorted ml) (hl : ml.length < 1000000) (ep x : Int) :
    Calls Try.prog 47 #[.agg #[.slice a ml.length c, .int .i64 ep], .int .i64 x] w (Ret (.tuple #[.int .i64 (findI ml x : Int), .bool (isAt ml x)]) fun w' => Ext no w w') := by
  refine Q0O.run a ml.length c ep x ?_
  unfold Q0O.N
  intro w4 X4
  exact (BS_spec (hr.no X4) hs hl x).mono fun e w9 ⟨he, X9⟩ => ⟨_, _, he, rfl, X4.trans X9⟩
theorem Q1X {ml : List Mem} {x : Int} (h : isAt ml x = true) : ∃ m, ml[findI ml x]? = some m ∧ m.who = x := by
  unfold isAt at h
  cases hg : ml[findI ml x]? with
  | none => rw [hg] at h; cases h
  | some m => rw [hg] at h; exact ⟨m, rfl, of_decide_eq_true h⟩
end
open W (OwnB)
theorem Q41 : ∃ i, Try.prog.info? 70 = some i ∧ i.zero = some (.agg #[.int .i64 0, .int .u64 0, .int .i64 0, .int .i64 0, .int .i64 0]) ∧ i.size = 5 ∧ i.bytes = 40 := info_of inf70
section
variable {w w' w1 : World} {o o' o1 : Own} {a : Option Addr} {c N : Nat} {l : List Wr} {ml : List Mem} {cs : List Value}
abbrev MRow (N : Nat) (w : World) (o : Own) (a : Option Addr) (c : Nat) (ml : List Mem) : Prop := LRow 70 5 N w o a ml.length c (ml.flatMap Mem.C)
theorem MRow.push (h : MRow N w o a c ml) (ok : Tags w o) (hl : ml.length < 1000000) (m : Mem) {q : Nat} (hb : Blk w q 70 m.C) (hq : N ≤ q) (hq' : q < w.heap.size) :
    ∃ a' c' w' o', (Builtin.append_ #[41, 41] 41 #[.slice a ml.length c, .slice (some (blk q)) 1 1]).run Try.prog w = .ok (.slice a' (ml ++ [m]).length c') w' ∧ Step (fun j => N ≤ j) w o w' o' ∧ MRow N w' o' a' c' (ml ++ [m]) := by
  obtain ⟨i, hi, hz, hsz, hby⟩ := Q41
  obtain ⟨a', c', w', o', hrun, s2, hrow, _⟩ := LRow.push (ty := 41) Try.underlying41 hi hz hsz hby rfl (by decide) h ok hq hq' (xa := some (blk q)) (m := 1) (xc := 1) (news := m.C) rfl (RowAt.of_blk hb) m.one (by omega) (by omega)
  exact ⟨a', c', w', o', by rw [List.length_append]; exact hrun, s2, by unfold MRow; rw [List.length_append, List.flatMap_append]; simpa using hrow⟩
theorem Q2b (ok : Tags w o) (hr : RowAt w a (ml.flatMap Mem.C)) (hl : ml.length < 1000000) :
    Calls Try.prog 67 #[.slice a ml.length c] w (fun x w' => ∃ o' a' c', x = .returned (.slice a' ml.length c') ∧ Step no w o w' o' ∧ MRow w.heap.size w' o' a' c' ml) := by
  refine (Q09.go _ _ _ (R := fun v w' => ∃ o' a' c', v = (.slice a' ml.length c') ∧ Step no w o w' o' ∧ MRow w.heap.size w' o' a' c' ml) ?_).mono fun x w' ⟨v, he, o', a', c', hv, hw⟩ => ⟨o', a', c', by rw [he, hv], hw⟩
  unfold Q09.N
  refine ⟨fun hn => ?_, fun hn w3 q X hb hq hq' => ?_⟩
  · subst hn
    have h0 := hr.none_nil
    have : ml = [] := by
      have := Q1g (f := Mem.C) Mem.len ml
      rw [h0] at this
      exact List.eq_nil_of_length_eq_zero (by simp at this; omega)
    subst this
    exact ⟨o, none, 0, rfl, Step.refl _ ok, LRow.nil _ _ _ _ _⟩
  · obtain ⟨i, hi, hz, hsz, hby⟩ := Q41
    have s3 := (Step.of_no X ok).tag hq hq'
    have g3 : Grows 70 5 w3 (tag (grow w o) q q) q (some (blk q)) 0 0 [] := ⟨Q1m hb rfl (Nat.zero_le _), fun ad ha => by cases ha; exact ⟨Q1n, hq'⟩⟩
    have L3 : LRow 70 5 w.heap.size w3 (tag (grow w o) q q) (some (blk q)) 0 0 [] := .inr ⟨q, hq, hq', g3⟩
    obtain ⟨a', c', w6, o6, hrun, s6, hrow, _⟩ := L3.push (ty := 41) Try.underlying41 hi hz hsz hby rfl (by decide) s3.ok hq hq' (xa := a) (m := ml.length) (xc := c) (news := ml.flatMap Mem.C) (Q1g Mem.len ml) (hr.no X) Mems.one (by omega) (by omega)
    rw [Nat.zero_add, List.nil_append] at hrow
    rw [Nat.zero_add] at hrun
    exact ⟨a', _, c', w6, hrun, o6, a', c', rfl, s3.trans' s6 fun j hj => .inr hj, hrow⟩
theorem Q3P (ml : List Mem) (i : Nat) : (ml.flatMap Mem.C).take (i * 5) = (ml.take i).flatMap Mem.C ∧ (ml.flatMap Mem.C).drop (i * 5) = (ml.drop i).flatMap Mem.C := by
  induction ml generalizing i with
  | nil => simp
  | cons x r ih =>
    cases i with
    | zero => simp
    | succ i =>
      have := ih i
      have hx : x.C.length = 5 := rfl
      simp only [List.flatMap_cons, List.take_succ_cons, List.drop_succ_cons]
      rw [show (i + 1) * 5 = x.C.length + i * 5 by rw [hx]; omega, List.take_length_add_append, List.drop_length_add_append, this.1, this.2]
      simp
theorem Q3g (h : MRow N w o a c ml) (ok : Tags w o) (hl : ml.length < 1000) {i : Nat} (hi : i ≤ ml.length) (m : Mem) {q : Nat} (hb : Blk w q 70 m.C) (hq : N ≤ q) (hq' : q < w.heap.size) (hoq : o q = none) :
    Calls Try.prog 68 #[.slice a ml.length c, .int .i64 i, .slice (some (blk q)) 1 1] w (fun x w' => ∃ o' a' c', x = .returned (.slice a' (ml.length + 1) c') ∧ Step (fun j => N ≤ j) w o w' o' ∧ MRow N w' o' a' c' (ml.take i ++ m :: ml.drop i)) := by
  refine (Q04.go _ _ _ _ _ _ _ (R := fun v w' => ∃ o' a' c', v = (.slice a' (ml.length + 1) c') ∧ Step (fun j => N ≤ j) w o w' o' ∧ MRow N w' o' a' c' (ml.take i ++ m :: ml.drop i)) ?_).mono fun x w' ⟨v, he, o', a', c', hv, hw⟩ => ⟨o', a', c', by rw [he, hv], hw⟩
  unfold Q04.N
  obtain ⟨inf, hinf, hz, hsz, hby⟩ := Q41
  have hnew : (ml.take i ++ m :: ml.drop i).length = ml.length + 1 := by simp; omega
  have hcells : (ml.take i ++ m :: ml.drop i).flatMap Mem.C = (ml.flatMap Mem.C).take (i * 5) ++ m.C ++ (ml.flatMap Mem.C).drop (i * 5) := by
    rw [(Q3P ml i).1, (Q3P ml i).2]; simp
  have hfl := Q1g (f := Mem.C) Mem.len ml
  refine ⟨by omega, by omega, fun h0 => by omega, fun _ => ⟨fun he => ?_, fun hne => ⟨by omega, by omega, fun hg => ?_, fun hroom => ?_⟩⟩⟩
  · have hie : i = ml.length := by omega
    obtain ⟨a', c', w', o', hrun, s, hrow⟩ := h.push ok (by omega) m hb hq hq'
    refine ⟨a', _, c', w', hrun, o', a', c', by simp, s, ?_⟩
    subst hie
    rw [List.take_length, List.drop_length]; exact hrow
  all_goals
    have hlt : i < ml.length := by omega
    rcases h with ⟨rfl, h0, _⟩ | ⟨k, hk1, hk2, hG⟩
    · omega
    have hkind := hG.own.2
    rcases hkind with ⟨hv, h0⟩ | ⟨g, cap, cur, hv, _, hgb, hnc, hcm, hcs, htk⟩
    · omega
    cases hv
    have tg := hG.tg ⟨g, 0, none⟩ rfl
    have hqg : q ≠ g := fun e => by subst e; rw [hoq] at tg; cases tg.1
    have hblk : Blk w g 70 cur.toList := by unfold Blk; simpa using hgb
    have hcl : cur.toList.length = c * 5 := by simpa using hcs
    have hmul : ml.length * 5 ≤ c * 5 := Nat.mul_le_mul_right 5 hnc
    have hrow := hG.row
    have hci : ∀ k, k ≤ i + 1 → k ≤ ml.length → c ≠ k ∨ k = c := fun k _ _ => by omega
  · -- a new row
    obtain ⟨c', w10, hrun, X10, hlt10, hc1, hc2, zs, hb10, hzl⟩ := Q3r (P := Try.prog) (w := w) (t := 41) (tn := 3) (ty := 41) (kq := .i64) (sz := 5) Try.underlying41 Try.underlying3 hinf hz hsz hby rfl (by decide)
      (a := some ⟨g, 0, none⟩) (n := i) (c := c) (k := ml.length + 1 - i) (cs := (ml.flatMap Mem.C).take (i * 5)) (hrow.take _) (by rw [List.length_take, hfl]; omega) (by simp) (by omega) (by omega) (by omega) (by omega)
    have e1 : (ml.length : Int) + ((1 : Nat) : Int) - (i : Int) = ((ml.length + 1 - i : Nat) : Int) := by omega
    have e2 : i + (ml.length + 1 - i) = ml.length + 1 := by omega
    rw [e2] at hrun hc1
    rw [e1, Int.toNat_natCast]
    refine ⟨by omega, by omega, by omega, by omega, by omega, by omega, _, _, c', w10, hrun, by omega, by omega, ?_⟩
    generalize hB : w.heap.size = B at *
    -- the new one
    have hcut : cutA (some ⟨B, 0, none⟩) c' i 5 = some ⟨B, i * 5, none⟩ := by unfold cutA; rw [if_neg (by omega)]; simp [Addr.add_lit]
    have hq10 : Blk w10 q 70 m.C := hb.ext X10 id
    have hzs : ∃ z1 z2, zs = z1 ++ z2 ∧ z1.length = 5 ∧ True := ⟨zs.take 5, zs.drop 5, (List.take_append_drop _ _).symm, by
      have hl2 : ((ml.flatMap Mem.C).take (i * 5)).length = i * 5 := by rw [List.length_take, hfl]; omega
      rw [List.length_append, hl2] at hzl
      rw [List.length_take]; omega, trivial⟩
    obtain ⟨z1, z2, rfl, hz1, _⟩ := hzs
    have hl2 : ((ml.flatMap Mem.C).take (i * 5)).length = i * 5 := by rw [List.length_take, hfl]; omega
    have hrun2 := Q1F (P := Try.prog) (w := w10) (dT := 41) (sT := 41) (ty := 3) (sz := 5) (dLen := ml.length + 1 - i) (dCap := c' - i) (sLen := 1) (sCap := 1) (n := 1) (a := blk q) (cs := m.C) (b := B) (o := i * 5) Try.underlying41 hinf hsz (Nat.min_eq_left (by omega)) rfl (fun j v hj => hq10.cella (i := j) hj) hb10 (by
      simp only [List.length_append, hl2, hz1, Mem.len]; omega) m.one
    obtain ⟨hb12, X12⟩ := Q1j (cs := m.C) (o := i * 5) hb10 (by simp only [List.length_append, hl2, hz1, Mem.len]; omega)
    have hset1 : setAll ((ml.flatMap Mem.C).take (i * 5) ++ (z1 ++ z2)) (i * 5) m.C = (ml.flatMap Mem.C).take (i * 5) ++ m.C ++ z2 := by
      rw [← List.append_assoc]
      have := Q21 (u := (ml.flatMap Mem.C).take (i * 5)) (x := z1) (y := z2) (v := m.C) (by rw [hz1]; rfl)
      rwa [hl2] at this
    rw [hset1] at hb12
    rw [hcut]
    refine ⟨1, _, hrun2, by omega, by omega, by omega, by omega, by omega, by omega, fun w13 X13 => ?_⟩
    have hb13 := hb12.ext X13 id
    have e3 : ((i : Int) + ((1 : Nat) : Int)).toNat = i + 1 := by omega
    rw [e3]
    have hcut2 : cutA (some ⟨B, 0, none⟩) c' (i + 1) 5 = some ⟨B, (i + 1) * 5, none⟩ := by
      unfold cutA
      rw [if_neg (by omega)]; simp [Addr.add_lit]
    have hcut3 : cutA (some ⟨g, 0, none⟩) c i 5 = some ⟨g, i * 5, none⟩ := by unfold cutA; rw [if_neg (by omega)]; simp [Addr.add_lit]
    rw [hcut2, hcut3]
    have hgB0 : g < B := tg.2
    have hgB : g ≠ B := by omega
    have X013 : Ext no w w13 := (X10.then X12 fun b hb => .inr (by omega)).trans X13
    have hrow13 := hrow.no X013
    have hsrc : ∀ j v, ((ml.flatMap Mem.C).drop (i * 5))[j]? = some v → w13.cell? ((⟨g, i * 5, none⟩ : Addr).add j) = some v := fun j v hj => by
      rw [List.getElem?_drop] at hj
      have := hrow13.at_ hj
      rw [Addr.add_lit] at this ⊢
      simpa using this
    have hdl : ((ml.flatMap Mem.C).drop (i * 5)).length = (ml.length - i) * 5 := by rw [List.length_drop, hfl]; omega
    have hz2 : (ml.length - i) * 5 ≤ z2.length := by
      rw [List.length_append, List.length_append, hl2, hz1] at hzl; omega
    have hl3 : ((ml.flatMap Mem.C).take (i * 5) ++ m.C).length = (i + 1) * 5 := by rw [List.length_append, hl2, Mem.len]; omega
    have hrun3 := Q1F (P := Try.prog) (w := w13) (dT := 41) (sT := 41) (ty := 3) (sz := 5) (dLen := ml.length + 1 - (i + 1)) (dCap := c' - (i + 1)) (sLen := ml.length - i) (sCap := c - i) (n := ml.length - i) (a := ⟨g, i * 5, none⟩) (cs := (ml.flatMap Mem.C).drop (i * 5)) (b := B) (o := (i + 1) * 5) Try.underlying41 hinf hsz (Nat.min_eq_left (by omega)) hdl hsrc hb13 (by
      rw [List.length_append, hl3, hdl]; omega) (fun v hv => Mems.one v (List.mem_of_mem_drop hv))
    obtain ⟨hb15, X15⟩ := Q1j (cs := (ml.flatMap Mem.C).drop (i * 5)) (o := (i + 1) * 5) hb13 (by rw [List.length_append, hl3, hdl]; omega)
    have hset2 : setAll ((ml.flatMap Mem.C).take (i * 5) ++ m.C ++ z2) ((i + 1) * 5) ((ml.flatMap Mem.C).drop (i * 5)) = (ml.flatMap Mem.C).take (i * 5) ++ m.C ++ (ml.flatMap Mem.C).drop (i * 5) ++ z2.drop ((ml.length - i) * 5) := by
      have := Q21 (u := (ml.flatMap Mem.C).take (i * 5) ++ m.C) (x := z2.take ((ml.length - i) * 5)) (y := z2.drop ((ml.length - i) * 5)) (v := (ml.flatMap Mem.C).drop (i * 5)) (by rw [hdl, List.length_take]; omega)
      rw [hl3, List.append_assoc _ (z2.take _), List.take_append_drop] at this
      exact this
    rw [hset2] at hb15
    refine ⟨_, _, hrun3, ?_⟩
    have X015 : Ext no w (w13.setCells B ((i + 1) * 5) ((ml.flatMap Mem.C).drop (i * 5))) := X013.then X15 fun b hb => .inr (by omega)
    have sz15 := X015.size
    have hB15 := hb15.lt
    have s := (Step.of_no X015 ok).tag (p := B) (j := k) (by omega) (by omega)
    refine ⟨_, some ⟨B, 0, none⟩, c', rfl, s.none, .inr ⟨k, hk1, by omega, ?_, fun ad ha => ?_⟩⟩
    · have hlen : (ml.take i ++ m :: ml.drop i).length * 5 = ((ml.flatMap Mem.C).take (i * 5) ++ m.C ++ (ml.flatMap Mem.C).drop (i * 5)).length := by
        rw [← hcells, Q1g Mem.len]
      rw [hcells]
      refine ⟨by rw [← hlen], .inr ⟨B, c', _, rfl, Nat.zero_le _, hb15, by rw [hnew]; exact hc1, hc2, ?_, ?_⟩⟩
      · have hh := hzl
        simp only [List.length_append, hl2, hz1, Mem.len] at hh
        simp only [List.size_toArray, List.length_append, hl2, Mem.len, hdl, List.length_drop]
        omega
      · rw [hlen]; exact List.take_left
    · cases ha; exact ⟨Q1n, by omega⟩
  · -- in place
    have e0 : ((ml.length : Int) + ((1 : Nat) : Int)).toNat = ml.length + 1 := by omega
    have e3 : ((i : Int) + ((1 : Nat) : Int)).toNat = i + 1 := by omega
    rw [e0, e3]
    have hcut2 : cutA (some ⟨g, 0, none⟩) c (i + 1) 5 = some ⟨g, (i + 1) * 5, none⟩ := by unfold cutA; rw [if_neg (by omega)]; simp [Addr.add_lit]
    have hcut3 : cutA (some ⟨g, 0, none⟩) c i 5 = some ⟨g, i * 5, none⟩ := by unfold cutA; rw [if_neg (by omega)]; simp [Addr.add_lit]
    rw [Int.toNat_natCast, hcut2, hcut3]
    have hapart := Q61 (P := Try.prog) (w := w) (tS := 41) (tR := 4) (la := 1) (ca := 1) (lb := ml.length + 1 - (i + 1)) (cb := c - (i + 1)) (oa := 0) (ob := (i + 1) * 5) Try.underlying41 hinf hb hblk hqg (fun e => by rw [e] at hcl; simp at hcl; omega)
      (k := 85) Try.func85 (by kernel_rfl) (by kernel_rfl) (by kernel_rfl) (by kernel_rfl)
    refine ⟨by omega, by omega, by omega, by omega, by omega, by omega, by omega, by omega, false, w, hapart, fun _ => ⟨by omega, by omega, by omega, by omega, by omega, by omega, fun w19 X19 => ?_⟩, fun h => absurd h (by decide)⟩
    have hb19 := hblk.ext X19 id
    have hq19 := hb.ext X19 id
    have hrow19 := hrow.no X19
    have hcur : cur.toList = ml.flatMap Mem.C ++ cur.toList.drop (ml.length * 5) := by
      rw [← htk, List.take_append_drop]
    generalize hrest : cur.toList.drop (ml.length * 5) = rest at *
    have hrl : rest.length = c * 5 - ml.length * 5 := by rw [← hrest, List.length_drop, hcl]
    have hsplit : ml.flatMap Mem.C = (ml.flatMap Mem.C).take (i * 5) ++ (ml.flatMap Mem.C).drop (i * 5) := (List.take_append_drop _ _).symm
    have hl2 : ((ml.flatMap Mem.C).take (i * 5)).length = i * 5 := by rw [List.length_take, hfl]; omega
    have hdl : ((ml.flatMap Mem.C).drop (i * 5)).length = (ml.length - i) * 5 := by rw [List.length_drop, hfl]; omega
    have hsrc : ∀ j v, ((ml.flatMap Mem.C).drop (i * 5))[j]? = some v → w19.cell? ((⟨g, i * 5, none⟩ : Addr).add j) = some v := fun j v hj => by
      rw [List.getElem?_drop] at hj
      have := hrow19.at_ hj
      rw [Addr.add_lit] at this ⊢
      simpa using this
    have hrun1 := Q1F (P := Try.prog) (w := w19) (dT := 41) (sT := 41) (ty := 3) (sz := 5) (dLen := ml.length + 1 - (i + 1)) (dCap := c - (i + 1)) (sLen := ml.length + 1 - i) (sCap := c - i) (n := ml.length - i) (a := ⟨g, i * 5, none⟩) (cs := (ml.flatMap Mem.C).drop (i * 5)) (b := g) (o := (i + 1) * 5) Try.underlying41 hinf hsz (by show min _ _ = _; omega) hdl hsrc hb19 (by rw [hdl, hcl]; omega) (fun v hv => Mems.one v (List.mem_of_mem_drop hv))
    obtain ⟨hb21, X21⟩ := Q1j (cs := (ml.flatMap Mem.C).drop (i * 5)) (o := (i + 1) * 5) hb19 (by rw [hdl, hcl]; omega)
    refine ⟨_, _, hrun1, by omega, by omega, ?_⟩
    have hq21 := hq19.ext X21 hqg
    -- what stands there now: the first i, one more, then the rest
    have h5 : ∃ y1 y2, (ml.flatMap Mem.C).drop (i * 5) ++ rest = y1 ++ y2 ∧ y1.length = 5 ∧ (ml.length - i) * 5 ≤ y2.length := ⟨((ml.flatMap Mem.C).drop (i * 5) ++ rest).take 5, ((ml.flatMap Mem.C).drop (i * 5) ++ rest).drop 5, (List.take_append_drop _ _).symm, by rw [List.length_take, List.length_append, hdl, hrl]; omega, by rw [List.length_drop, List.length_append, hdl, hrl]; omega⟩
    obtain ⟨y1, y2, hy, hy1, hy2⟩ := h5
    have hcur2 : cur.toList = (ml.flatMap Mem.C).take (i * 5) ++ y1 ++ y2 := by rw [hcur, List.append_assoc, ← hy, ← List.append_assoc, ← hsplit]
    have hl3 : ((ml.flatMap Mem.C).take (i * 5) ++ y1).length = (i + 1) * 5 := by rw [List.length_append, hl2, hy1]; omega
    have hset1 : setAll cur.toList ((i + 1) * 5) ((ml.flatMap Mem.C).drop (i * 5)) = (ml.flatMap Mem.C).take (i * 5) ++ y1 ++ (ml.flatMap Mem.C).drop (i * 5) ++ y2.drop ((ml.length - i) * 5) := by
      have := Q21 (u := (ml.flatMap Mem.C).take (i * 5) ++ y1) (x := y2.take ((ml.length - i) * 5)) (y := y2.drop ((ml.length - i) * 5)) (v := (ml.flatMap Mem.C).drop (i * 5)) (by rw [hdl, List.length_take]; omega)
      rw [hl3, List.append_assoc _ (y2.take _), List.take_append_drop, ← hcur2] at this
      exact this
    rw [hset1] at hb21
    have hrun2 := Q1F (P := Try.prog) (dT := 41) (sT := 41) (ty := 3) (sz := 5) (dLen := ml.length + 1 - i) (dCap := c - i) (sLen := 1) (sCap := 1) (n := 1) (a := blk q) (cs := m.C) (b := g) (o := i * 5) Try.underlying41 hinf hsz (Nat.min_eq_left (by omega)) rfl (fun j v hj => hq21.cella (i := j) hj) hb21 (by
      simp only [List.length_append, hl2, hy1, Mem.len]; omega) m.one
    obtain ⟨hb23, X23⟩ := Q1j (cs := m.C) (o := i * 5) hb21 (by simp only [List.length_append, hl2, hy1, Mem.len]; omega)
    refine ⟨_, _, hrun2, ?_⟩
    have hset2 : setAll ((ml.flatMap Mem.C).take (i * 5) ++ y1 ++ (ml.flatMap Mem.C).drop (i * 5) ++ y2.drop ((ml.length - i) * 5)) (i * 5) m.C = (ml.flatMap Mem.C).take (i * 5) ++ m.C ++ (ml.flatMap Mem.C).drop (i * 5) ++ y2.drop ((ml.length - i) * 5) := by
      have := Q21 (u := (ml.flatMap Mem.C).take (i * 5)) (x := y1) (y := (ml.flatMap Mem.C).drop (i * 5) ++ y2.drop ((ml.length - i) * 5)) (v := m.C) (by rw [hy1]; rfl)
      rw [hl2] at this
      simpa [List.append_assoc] using this
    rw [hset2] at hb23
    have XX : Ext (fun b => b = g) w _ := (X19.none.trans X21).trans X23
    have s : Step (fun j => j = k) w o _ (grow w o) := Step.of_ext XX ok fun b hb _ => by subst hb; exact tg.1
    refine ⟨_, some ⟨g, 0, none⟩, c, rfl, s.mono fun j hj _ => by omega, .inr ⟨k, hk1, Nat.lt_of_lt_of_le hk2 s.size, ?_, fun ad ha => ?_⟩⟩
    · have hlen : (ml.take i ++ m :: ml.drop i).length * 5 = ((ml.flatMap Mem.C).take (i * 5) ++ m.C ++ (ml.flatMap Mem.C).drop (i * 5)).length := by
        rw [← hcells, Q1g Mem.len]
      rw [hcells]
      refine ⟨by rw [← hlen], .inr ⟨g, c, _, rfl, Nat.zero_le _, hb23, by rw [hnew]; omega, hcm, ?_, ?_⟩⟩
      · simp only [List.size_toArray, List.length_append, hl2, Mem.len, hdl, List.length_drop]
        have : y2.length = c * 5 - i * 5 - 5 := by
          have := congrArg List.length hcur2
          rw [List.length_append, hl3, hcl] at this
          omega
        omega
      · rw [hlen]; exact List.take_left
    · cases ha; exact ⟨(s.own tg.2).trans tg.1, Nat.lt_of_lt_of_le tg.2 s.size⟩
end
open W (OwnB)
structure MS where
  ml : List Mem
  ep : Int
def MS.z : MS := ⟨[], 0⟩
def inviteM (s : MS) (c : Chg) : MS × Int := if isAt s.ml c.who = true then (MS.z, 13) else (⟨s.ml.take (findI s.ml c.who) ++ ⟨c.who, c.pub, s.ep + 1, -1, 0⟩ :: s.ml.drop (findI s.ml c.who), s.ep⟩, 0)
def revokeM (s : MS) (c : Chg) : MS × Int :=
  if isAt s.ml c.who = true then
    (match s.ml[findI s.ml c.who]? with
     | some m => if m.to_ = -1 then (⟨s.ml.set (findI s.ml c.who) { m with to_ := if s.ep < 0 then -2 else s.ep, lim := c.lim }, s.ep⟩, 0) else (MS.z, 10)
     | none => (MS.z, 20))
  else (MS.z, 20)
def nowM (l : List Mem) : List Mem := l.filter fun m => decide (m.to_ = -1)
def beginM (s : MS) (c : Chg) : MS × Int :=
  if s.ep + 1 ≥ 20 then (MS.z, 2) else if ((c.old.length : Int) == 0) = decide (s.ep < 0) then (if (nowM s.ml).map Mem.who = c.ws.map Prod.fst then (⟨s.ml, s.ep + 1⟩, 0) else (MS.z, 10)) else (MS.z, 10)
def applyM (s : MS) (c : Chg) : MS × Int := if rightM c = true then (if c.kd = 1 then inviteM s c else if c.kd = 2 then revokeM s c else beginM s c) else (MS.z, 1)
structure MS.ok (s : MS) : Prop where
  sorted : Sorted s.ml
  who : ∀ m ∈ s.ml, 0 ≤ m.who ∧ m.who < 8
  ep0 : -1 ≤ s.ep
  ep1 : s.ep < 20
theorem MS.ok.le {s : MS} (h : s.ok) : s.ml.length ≤ 8 := by
  have key : ∀ (i : Nat) (m : Mem), s.ml[i]? = some m → (i : Int) ≤ m.who := by
    intro i
    induction i with
    | zero => intro m hm; exact (h.who m (List.mem_of_getElem? hm)).1
    | succ i ih =>
      intro m hm
      have hi : i < s.ml.length := by have := (List.getElem?_eq_some_iff.1 hm).1; omega
      have h1 := ih _ (List.getElem?_eq_getElem hi)
      have h2 := h.sorted.get (List.getElem?_eq_getElem hi) hm (by omega)
      omega
  by_cases h0 : s.ml.length = 0
  · omega
  · have hi : s.ml.length - 1 < s.ml.length := by omega
    have h1 := key _ _ (List.getElem?_eq_getElem hi)
    have h2 := (h.who _ (List.getElem_mem hi)).2
    omega
def MsG (w : World) (o : Own) (r : MS × Int) (x : Ending) (w' : World) : Prop := ∃ o' a' c', x = .returned (.tuple #[.agg #[.slice a' r.1.ml.length c', .int .i64 r.1.ep], .int .i64 r.2]) ∧ Step no w o w' o' ∧ Row w' o' a' (r.1.ml.flatMap Mem.C) ∧ r.1.ml.length ≤ c'
def MsR (w : World) (o : Own) (r : MS × Int) (v : Value) (w' : World) : Prop := ∃ o' a' c', v = (.tuple #[.agg #[.slice a' r.1.ml.length c', .int .i64 r.1.ep], .int .i64 r.2]) ∧ Step no w o w' o' ∧ Row w' o' a' (r.1.ml.flatMap Mem.C) ∧ r.1.ml.length ≤ c'
section
variable {w w' w1 : World} {o o' o1 : Own} {a : Option Addr} {c N : Nat} {l : List Wr} {ml : List Mem} {cs : List Value} {s : MS} {cg : Chg} {wa oa : Option Addr} {wc oc : Nat}
theorem MsR.zero (s1 : Step no w o w1 o1) (cd : Int) : MsR w o (MS.z, cd) (.tuple #[.agg #[.slice none 0 0, .int .i64 0], .int .i64 cd]) w1 := ⟨o1, none, 0, rfl, s1, Row.nil _ _ _, Nat.le_refl _⟩
theorem MsR.of {r : MS × Int} {v : Value} (h : MsR w o r v w') {x : Ending} (hx : x = .returned v) : MsG w o r x w' := by
  obtain ⟨o', a', c', hv, h⟩ := h
  exact ⟨o', a', c', by rw [hx, hv], h⟩
theorem noStep {K : Nat → Prop} (h : Step no w o w1 o1) : Step no w o w1 (grow w o) := Step.of_no (h.ext.mono fun b ⟨_, _, h⟩ _ => h) h.ok0
theorem Q4H (hr : Row w o a (s.ml.flatMap Mem.C)) (ok : Tags w o) (hs : s.ok) :
    Calls Try.prog 36 #[.agg #[.slice a s.ml.length c, .int .i64 s.ep], chgV cg wa wc oa oc] w (MsG w o (inviteM s cg)) := by
  have hle := hs.le
  have h0 := hs.ep0
  have h1 := hs.ep1
  refine (Q0D.go a s.ml.length c s.ep cg.kd cg.who cg.pub cg.lim wa cg.ws.length wc oa cg.old.length oc (R := MsR w o (inviteM s cg)) ?_).mono fun x w' ⟨v, he, h⟩ => h.of he
  unfold Q0D.N
  intro w11 p12 p13 p14 X11 hp
  obtain ⟨s11, M11⟩ := Step.priv X11 hp ok
  have g : ∀ p ∈ [p12, p13, p14], w.heap.size ≤ p := fun p h => (hp p h).1
  refine (Q4x (hr.step s11).1 hs.sorted (by omega) s.ep cg.who).mono fun x w18 ⟨he, X18⟩ => ⟨_, _, he, X18.kept, fun hf w21 X21 => ?_, fun hf => ⟨by omega, by omega, fun w22 X22 => ?_, fun w23 q24 X23 hb23 hq hq' => ?_⟩⟩
  all_goals have s18' := Step.of_no X18 s11.ok
  all_goals have s18 := s11.trans s18'
  all_goals have M18 := M11.step s18'
  · have s21 := Step.stores X21 s18'.ok (M18.sub (M := [p14]) (by simp)) (by simp)
    unfold inviteM; rw [if_pos hf]
    exact MsR.zero (s18.trans' s21 fun i hi => .inr (g i (by simp at hi ⊢; omega))) 13
  · have s22' := Step.of_no X22 s18'.ok
    have s22 := s18.trans s22'
    refine (Q2b s22.ok (hr.step s22).1 (by omega)).mono fun x w25 ⟨o25, ca, cc, he, s25, r25⟩ => ⟨_, _, _, he, (M18.step s22').keep s25 fun _ _ => id, fun w26 q27 X26 hb hq hq' => ?_⟩
    have s26 := Step.of_no X26 s25.ok
    have r26 := r25.step s26 fun k h => h.elim
    have l22 := s22.size
    have l25 := s25.size
    refine (Q3g (N := w22.heap.size) r26 s26.ok (by omega) (Q2s s.ml cg.who) ⟨cg.who, cg.pub, s.ep + 1, -1, 0⟩ hb (by omega) hq' (grow_ge hq)).mono fun x w30 ⟨o30, ia, ic, he, s30, r30⟩ => ⟨_, _, _, he, ?_, fun w33 X33 => ?_⟩
    · refine ((((M18.step s22').step s25).step s26).sub (M := [p12, p14]) (by simp)).keep s30 fun p hp' => ?_
      have := (M18.step s22').lt (p := p) (by simp at hp' ⊢; omega)
      omega
    · have s33 := Step.stores X33 s30.ok (((((M18.step s22').step s25).step s26).step s30).sub (M := [p12, p14]) (by simp)) (by simp [or_comm])
      have sA : Step no w o w30 o30 := ((s22.trans s25).trans s26).trans' s30 fun i hi => .inr (by omega)
      have sB : Step no w o w33 _ := sA.trans' s33 fun i hi => .inr (g i (by simp at hi ⊢; omega))
      have r33 := r30.step s33 fun k hk => .inl ((M18.step s22').lt (p := k) (by simp at hk ⊢; omega))
      unfold inviteM; rw [if_neg (by rw [hf]; decide)]
      refine ⟨_, ia, ic, ?_, noStep (K := no) sB, r33.give sB (by omega), r33.le⟩
      have hfi := Q2s s.ml cg.who
      have hnl : (s.ml.take (findI s.ml cg.who) ++ (⟨cg.who, cg.pub, s.ep + 1, -1, 0⟩ : Mem) :: s.ml.drop (findI s.ml cg.who)).length = s.ml.length + 1 := by simp; omega
      show _ = Value.tuple #[.agg #[.slice ia (s.ml.take (findI s.ml cg.who) ++ (⟨cg.who, cg.pub, s.ep + 1, -1, 0⟩ : Mem) :: s.ml.drop (findI s.ml cg.who)).length ic, .int .i64 s.ep], .int .i64 0]
      rw [hnl]
  · have s23' := Step.of_no X23 s18'.ok
    have s23 := s18.trans s23'
    refine (Q2b s23.ok (hr.step s23).1 (by omega)).mono fun x w27 ⟨o27, ca, cc, he, s27, r27⟩ => ⟨_, _, _, he, ((M18.step s23').sub (M := [p12, p14]) (by simp)).keep s27 fun _ _ => id, ?_⟩
    have l18 := s18.size
    have hb27 : Blk w27 q24 70 [.int .i64 cg.who, .int .u64 cg.pub, .int .i64 (s.ep + 1), .int .i64 (-1), .int .i64 0] := by
      have := s27.at hq' (fun k hk => id)
      unfold Blk at hb23 ⊢; rw [this]; exact hb23
    have hqo : o27 q24 = none := by rw [s27.own hq']; exact grow_ge hq
    have hM24 : ∀ p ∈ [p12, p14], p < w18.heap.size := fun p hp' => M18.lt (p := p) (by simp at hp' ⊢; omega)
    have r27' : MRow w18.heap.size w27 o27 ca cc s.ml := by
      rcases r27 with h | ⟨k, h1, h2, h⟩
      · exact .inl h
      · exact .inr ⟨k, by have := X23.size; omega, h2, h⟩
    refine (Q3g (N := w18.heap.size) r27' s27.ok (by omega) (Q2s s.ml cg.who) ⟨cg.who, cg.pub, s.ep + 1, -1, 0⟩ hb27 hq (Nat.lt_of_lt_of_le hq' s27.size) hqo).mono fun x w30 ⟨o30, ia, ic, he, s30, r30⟩ => ⟨_, _, _, he, ?_, fun w33 X33 => ?_⟩
    · refine (((M18.step s23').step s27).sub (M := [p12, p14]) (by simp)).keep s30 fun p hp' => ?_
      have := hM24 p hp'
      omega
    · have s33 := Step.stores X33 s30.ok ((((M18.step s23').step s27).step s30).sub (M := [p12, p14]) (by simp)) (by simp [or_comm])
      have sA : Step no w o w30 o30 := (s23.trans s27).trans' s30 fun i hi => .inr (by omega)
      have sB : Step no w o w33 _ := sA.trans' s33 fun i hi => .inr (g i (by simp at hi ⊢; omega))
      have r33 := r30.step s33 fun k hk => .inl (hM24 k hk)
      unfold inviteM; rw [if_neg (by rw [hf]; decide)]
      refine ⟨_, ia, ic, ?_, noStep (K := no) sB, r33.give sB (by omega), r33.le⟩
      have hfi := Q2s s.ml cg.who
      have hnl : (s.ml.take (findI s.ml cg.who) ++ (⟨cg.who, cg.pub, s.ep + 1, -1, 0⟩ : Mem) :: s.ml.drop (findI s.ml cg.who)).length = s.ml.length + 1 := by simp; omega
      show _ = Value.tuple #[.agg #[.slice ia (s.ml.take (findI s.ml cg.who) ++ (⟨cg.who, cg.pub, s.ep + 1, -1, 0⟩ : Mem) :: s.ml.drop (findI s.ml cg.who)).length ic, .int .i64 s.ep], .int .i64 0]
      rw [hnl]
theorem Q3X (ml : List Mem) {i : Nat} {m : Mem} (h : ml[i]? = some m) (j : Nat) (v : Value) (m' : Mem) (hm : m'.C = m.C.set j v) (hj : j < 5) : (ml.flatMap Mem.C).set (i * 5 + j) v = (ml.set i m').flatMap Mem.C := by
  induction ml generalizing i with
  | nil => simp at h
  | cons x r ih =>
    cases i with
    | zero =>
      simp only [List.getElem?_cons_zero, Option.some.injEq] at h
      subst h
      rw [Nat.zero_mul, Nat.zero_add, List.flatMap_cons, List.set_append_left _ _ (by rw [Mem.len]; exact hj)]
      simp [hm]
    | succ i =>
      simp only [List.getElem?_cons_succ] at h
      rw [List.flatMap_cons, List.set_append_right _ _ (by rw [Mem.len]; omega), show (i + 1) * 5 + j - x.C.length = i * 5 + j by rw [Mem.len]; omega, ih h]
      simp
theorem Q4L (hr : Row w o a (s.ml.flatMap Mem.C)) (ok : Tags w o) (hs : s.ok) :
    Calls Try.prog 37 #[.agg #[.slice a s.ml.length c, .int .i64 s.ep], chgV cg wa wc oa oc] w (MsG w o (revokeM s cg)) := by
  have hle := hs.le
  have h0 := hs.ep0
  have h1 := hs.ep1
  refine (Q0n.go a s.ml.length c s.ep cg.kd cg.who cg.pub cg.lim wa cg.ws.length wc oa cg.old.length oc (R := MsR w o (revokeM s cg)) ?_).mono fun x w' ⟨v, he, h⟩ => h.of he
  unfold Q0n.N
  intro w11 p12 p13 p14 X11 hp
  obtain ⟨s11, M11⟩ := Step.priv X11 hp ok
  have g : ∀ p ∈ [p12, p13, p14], w.heap.size ≤ p := fun p h => (hp p h).1
  refine (Q4x (hr.step s11).1 hs.sorted (by omega) s.ep cg.who).mono fun x w18 ⟨he, X18⟩ => ⟨_, _, he, X18.kept, fun hf w21 X21 => ?_, fun hf => ?_⟩
  all_goals have s18' := Step.of_no X18 s11.ok
  all_goals have s18 := s11.trans s18'
  all_goals have M18 := M11.step s18'
  · have s21 := Step.stores X21 s18'.ok (M18.sub (M := [p14]) (by simp)) (by simp)
    unfold revokeM; rw [if_neg (by rw [hf]; decide)]
    exact MsR.zero (s18.trans' s21 fun i hi => .inr (g i (by simp at hi ⊢; omega))) 20
  obtain ⟨m, hm, hmw⟩ := Q1X hf
  have hlt := (List.getElem?_eq_some_iff.1 hm).1
  obtain ⟨ad, rfl⟩ := hr.1.faddr Mem.len (by decide) hlt
  have hfi := Int.toNat_natCast (findI s.ml cg.who)
  have hM : revokeM s cg = if m.to_ = -1 then (⟨s.ml.set (findI s.ml cg.who) { m with to_ := if s.ep < 0 then -2 else s.ep, lim := cg.lim }, s.ep⟩, 0) else (MS.z, 10) := by unfold revokeM; rw [if_pos hf, hm]
  rw [hM, hfi]
  generalize findI s.ml cg.who = i at *
  refine ⟨ad, rfl, by omega, by omega, m.to_, (hr.step s18).1.fcell Mem.len hm 3 rfl, fun hto w27 X27 => ?_, fun hto => ?_⟩
  · have s27 := Step.stores X27 s18'.ok (M18.sub (M := [p14]) (by simp)) (by simp)
    rw [if_neg hto]
    exact MsR.zero (s18.trans' s27 fun i hi => .inr (g i (by simp at hi ⊢; omega))) 10
  rw [if_pos hto]
  refine (Q2b s18.ok (hr.step s18).1 (by omega)).mono fun x w30 ⟨o30, ca, cc, he, s30', r30⟩ => ⟨_, _, _, he, M18.keep s30' fun _ _ => id, ?_⟩
  have s30 := s18.trans s30'
  have M30 := M18.step s30'
  obtain ⟨cd, rfl⟩ := r30.row.faddr Mem.len (by decide) hlt
  refine ⟨cd, rfl, by omega, by omega, fun w33 X33 => ?_⟩
  have s33' := Step.stores X33 s30.ok (M30.sub (M := [p12]) (by simp)) (by simp)
  have hMlt : ∀ p ∈ [p12, p13, p14], p < w18.heap.size := fun p hp' => M18.lt hp'
  have s33 : Step no w o w33 _ := s30.trans' s33' fun i hi => .inr (g i (by simp at hi ⊢; omega))
  have M33 := M30.step s33'
  have r33 := r30.step s33' fun k hk => .inl (hMlt k (by simp at hk ⊢; omega))
  have hfl : (s.ml.flatMap Mem.C).length = s.ml.length * 5 := Q1g Mem.len s.ml
  have hadd : ∀ j, ((cd.add (i * 5)).add j).add 0 = cd.add (i * 5 + j) := fun j => by rw [add_add, add_add, Nat.add_zero]
  have hblk : ∀ j, Addr.block ((cd.add (i * 5)).add j) = cd.block := fun j => by rw [Q0a, Q0a]
  -- the first store
  obtain ⟨cd', hcd', can1, hN1, hsm1, hst1⟩ := r33.set s33.ok (j := i * 5 + 3) (by rw [hfl]; omega) (.int .i64 s.ep)
  cases hcd'
  have offP : ∀ {wz : World} {oz : Own}, Mine [p12, p13, p14] wz oz → (∀ k, oz cd.block = some k → w18.heap.size ≤ k) → ∀ p ∈ [p12, p13, p14], p ≠ cd.block := fun Mz hz p hp' e => by
    have h1 := (Mz p hp').2
    rw [e] at h1
    have := hz _ h1
    have := hMlt p hp'
    omega
  refine ⟨by rw [hadd]; exact can1, fun p hp' => by rw [hblk]; exact offP M33 hN1 p hp', Q01 fun w34 e34 => ?_⟩
  rw [hadd] at e34
  obtain ⟨s34', r34, X34⟩ := hst1 w34 e34
  have s34 : Step no w o w34 _ := s33.trans' s34' fun i hi => .inr (by have := s18.size; omega)
  have M34 := M33.step s34'
  have hset1 := Q3X s.ml hm 3 (.int .i64 s.ep) { m with to_ := s.ep } rfl (by decide)
  rw [hset1] at r34
  have hm2 : (s.ml.set i { m with to_ := s.ep })[i]? = some { m with to_ := s.ep } := by rw [List.getElem?_set_self hlt]
  have hfl2 : ((s.ml.set i { m with to_ := s.ep }).flatMap Mem.C).length = s.ml.length * 5 := by rw [Q1g Mem.len, List.length_set]
  obtain ⟨cd', hcd', can2, hN2, hsm2, hst2⟩ := r34.set s34.ok (j := i * 5 + 4) (by rw [hfl2]; omega) (.int .i64 cg.lim)
  cases hcd'
  refine ⟨by rw [hadd]; exact can2, fun p hp' => by rw [hblk]; exact offP M34 hN2 p (by simp at hp' ⊢; omega), Q01 fun w35 e35 => ?_⟩
  rw [hadd] at e35
  obtain ⟨s35', r35, X35⟩ := hst2 w35 e35
  have s35 : Step no w o w35 _ := s34.trans' s35' fun i hi => .inr (by have := s18.size; omega)
  have M35 := M34.step s35'
  have hset2 := Q3X (s.ml.set i { m with to_ := s.ep }) hm2 4 (.int .i64 cg.lim) { m with to_ := s.ep, lim := cg.lim } rfl (by decide)
  rw [hset2, List.set_set] at r35
  have hm3 : (s.ml.set i { m with to_ := s.ep, lim := cg.lim })[i]? = some { m with to_ := s.ep, lim := cg.lim } := by rw [List.getElem?_set_self hlt]
  have hfl3 : ((s.ml.set i { m with to_ := s.ep, lim := cg.lim }).flatMap Mem.C).length = s.ml.length * 5 := by rw [Q1g Mem.len, List.length_set]
  refine ⟨fun hneg => ?_, fun hpos w41 X41 => ?_⟩
  · obtain ⟨cd', hcd', can3, hN3, hsm3, hst3⟩ := r35.set s35.ok (j := i * 5 + 3) (by rw [hfl3]; omega) (.int .i64 (-2))
    cases hcd'
    refine ⟨by rw [hadd]; exact can3, fun p hp' => by rw [hblk]; exact offP M35 hN3 p (by simp at hp' ⊢; omega), Q01 fun w37 e37 => ?_⟩
    rw [hadd] at e37
    obtain ⟨s37', r37, X37⟩ := hst3 w37 e37
    have s37 : Step no w o w37 _ := s35.trans' s37' fun i hi => .inr (by have := s18.size; omega)
    have M37 := M35.step s37'
    have hset3 := Q3X (s.ml.set i { m with to_ := s.ep, lim := cg.lim }) hm3 3 (.int .i64 (-2)) { m with to_ := -2, lim := cg.lim } rfl (by decide)
    rw [hset3, List.set_set] at r37
    intro w39 X39
    have s39' := Step.stores X39 s37.ok (M37.sub (M := [p14]) (by simp)) (by simp)
    have s39 : Step no w o w39 _ := s37.trans' s39' fun i hi => .inr (g i (by simp at hi ⊢; omega))
    have r39 := r37.step s39' fun k hk => .inl (hMlt k (by simp at hk ⊢; omega))
    rw [if_pos hneg]
    refine ⟨_, some cd, cc, by rw [List.length_set], noStep (K := no) s39, r39.give s39 s18.size, by rw [List.length_set]; exact r39.le⟩
  · have s41' := Step.stores X41 s35.ok (M35.sub (M := [p14]) (by simp)) (by simp)
    have s41 : Step no w o w41 _ := s35.trans' s41' fun i hi => .inr (g i (by simp at hi ⊢; omega))
    have r41 := r35.step s41' fun k hk => .inl (hMlt k (by simp at hk ⊢; omega))
    rw [if_neg (by omega)]
    refine ⟨_, some cd, cc, by rw [List.length_set], noStep (K := no) s41, r41.give s41 s18.size, by rw [List.length_set]; exact r41.le⟩
theorem Q5a (hr : Row w o a (ml.flatMap Mem.C)) (ok : Tags w o) (hl : ml.length < 1000) (ep : Int) :
    Calls Try.prog 29 #[.agg #[.slice a ml.length c, .int .i64 ep]] w (fun x w' => ∃ o' a' c', x = .returned (.slice a' (nowM ml).length c') ∧ Step no w o w' o' ∧ Row w' o' a' ((nowM ml).flatMap Mem.C) ∧ (nowM ml).length ≤ c') := by
  refine (Q14.go a ml.length c ep (R := fun v w' => ∃ o' a' c', v = (.slice a' (nowM ml).length c') ∧ Step no w o w' o' ∧ Row w' o' a' ((nowM ml).flatMap Mem.C) ∧ (nowM ml).length ≤ c') ?_).mono fun x w' ⟨v, he, o', a', c', hv, hw⟩ => ⟨o', a', c', by rw [he, hv], hw⟩
  unfold Q14.N
  intro w3 X3
  have s3 := Step.of_no X3 ok
  refine ⟨fun m vs w1 => ∃ (t : Nat) (a1 : Option Addr) (c1 : Nat) (o1 : Own), vs = [.slice a1 (nowM (ml.take t)).length c1, .int .i64 t] ∧ m + t = ml.length ∧ Step no w o w1 o1 ∧ MRow w.heap.size w1 o1 a1 c1 (nowM (ml.take t)), ml.length, ⟨0, none, 0, _, rfl, rfl, s3, LRow.nil _ _ _ _ _⟩, ?_⟩
  rintro m w1 ra rn rc i ⟨t, a1, c1, o1, hi, hm, s1, r1⟩
  simp only [List.cons.injEq, Value.slice.injEq, Value.int.injEq, true_and, and_true] at hi
  obtain ⟨⟨rfl, rfl, rfl⟩, rfl⟩ := hi
  refine ⟨fun ht => ?_, fun ht => ?_⟩
  · have htl : t < ml.length := by omega
    have hg : ml[t]? = some ml[t] := List.getElem?_eq_getElem htl
    have htk : ml.take (t + 1) = ml.take t ++ [ml[t]] := by rw [List.take_add_one, hg]; rfl
    generalize ml[t] = x at *
    obtain ⟨ad, rfl⟩ := hr.1.faddr Mem.len (by decide) htl
    refine ⟨ad, rfl, by omega, by omega, x.who, x.pub, x.fr, x.to_, x.lim, by rw [Int.toNat_natCast]; exact (hr.step s1).1.floads Mem.len hg, fun hto w25 q26 X25 hb hq hq' => ?_, fun hto => ⟨by omega, by omega, fun w23 X23 => ?_⟩⟩
    · have s25 := Step.of_no X25 s1.ok
      have r25 : MRow w.heap.size w25 _ ra rc (nowM (ml.take t)) := LRow.step r1 s25 fun k h => h.elim
      have hln : (nowM (ml.take t)).length < 1000000 := by
        have h1 : (nowM (ml.take t)).length ≤ (ml.take t).length := List.length_filter_le _ _
        rw [List.length_take] at h1; omega
      obtain ⟨a', c', w', o', hrun, s2, hrow⟩ := r25.push s25.ok hln x hb (by have := s1.size; omega) hq'
      have hnw : nowM (ml.take (t + 1)) = nowM (ml.take t) ++ [x] := by rw [htk]; unfold nowM; rw [List.filter_append]; simp [hto]
      exact ⟨a', _, c', w', hrun, by omega, by omega, m - 1, by omega, t + 1, a', c', o', by rw [hnw]; simp, by omega, (s1.trans s25).trans' s2 fun i hi => .inr hi, by rw [hnw]; exact hrow⟩
    · have s23 := Step.of_no X23 s1.ok
      have hnw : nowM (ml.take (t + 1)) = nowM (ml.take t) := by rw [htk]; unfold nowM; rw [List.filter_append]; simp [hto]
      exact ⟨m - 1, by omega, t + 1, ra, rc, _, by rw [hnw]; simp, by omega, s1.trans s23, by rw [hnw]; exact LRow.step r1 s23 fun k h => h.elim⟩
  · have : t = ml.length := by omega
    subst this
    rw [List.take_length] at r1 ⊢
    exact ⟨_, ra, rc, rfl, noStep (K := no) s1, r1.give s1 (Nat.le_refl _), r1.le⟩
theorem Q4E (m : Mem) (x : Wr) : Calls Try.prog 66 #[.agg #[.int .i64 m.who, .int .u64 m.pub, .int .i64 m.fr, .int .i64 m.to_, .int .i64 m.lim], .agg #[.int .i64 x.who, .slice x.a x.b.length x.c]] w (Ret (.bool (m.who == x.who)) fun w' => Ext no w w') := by
  refine Q0A.run m.who m.pub m.fr m.to_ m.lim x.who x.a x.b.length x.c ?_
  unfold Q0A.N
  exact fun w' X => ⟨rfl, X⟩
theorem Q3v (hr : RowAt w a (ml.flatMap Mem.C)) (hw : RowAt w wa (l.flatMap Wr.C)) (hl : ml.length < 1000000) :
    Calls Try.prog 65 #[.slice a ml.length c, .slice wa l.length wc, .func (.func 66) #[] #[]] w (Ret (.bool (decide (ml.map Mem.who = l.map Wr.who))) fun w' => Ext no w w') := by
  refine Q02.run a ml.length c wa l.length wc _ _ _ ?_
  unfold Q02.N
  refine ⟨fun hne => ⟨?_, Ext.refl _ _⟩, fun heq => ?_⟩
  · congr 1
    rw [eq_comm, decide_eq_false_iff_not]
    intro h
    have := congrArg List.length h
    simp at this; omega
  refine ⟨fun q vs w1 => ∃ t : Nat, vs = [.int .i64 t] ∧ q + t = ml.length ∧ Ext no w w1 ∧ (ml.map Mem.who).take t = (l.map Wr.who).take t, ml.length, ⟨0, rfl, rfl, Ext.refl _ _, rfl⟩, ?_⟩
  rintro q w1 i ⟨t, hi, hq, X1, hn⟩
  simp only [List.cons.injEq, Value.int.injEq, true_and, and_true] at hi
  subst hi
  refine ⟨fun ht => ?_, fun ht => ?_⟩
  · have htl : t < ml.length := by omega
    have htm : t < l.length := by omega
    have hg : ml[t]? = some ml[t] := List.getElem?_eq_getElem htl
    have hgm : l[t]? = some l[t] := List.getElem?_eq_getElem htm
    generalize ml[t] = x at *
    generalize l[t] = y at *
    obtain ⟨ad, rfl⟩ := hr.faddr Mem.len (by decide) htl
    obtain ⟨bd, rfl⟩ := hw.faddr Wr.len (by decide) htm
    refine ⟨ad, rfl, by omega, by omega, x.who, x.pub, x.fr, x.to_, x.lim, by rw [Int.toNat_natCast]; exact (hr.no X1).floads Mem.len hg, bd, rfl, by omega, by omega, y.who, y.a, y.b.length, y.c, by rw [Int.toNat_natCast]; exact (hw.no X1).floads Wr.len hgm, fun w29 X29 => ⟨by kernel_rfl, ?_⟩⟩
    refine (Q4E x y).mono fun e w34 ⟨he, X34⟩ => ⟨_, he, fun h => ⟨?_, (X1.trans X29).trans X34⟩, fun h => ⟨by omega, by omega, q - 1, by omega, t + 1, rfl, by omega, (X1.trans X29).trans X34, ?_⟩⟩
    · congr 1
      rw [eq_comm, decide_eq_false_iff_not]
      intro h2
      have h3 := congrArg (fun l => l[t]?) h2
      simp only [List.getElem?_map, hg, hgm, Option.map_some, Option.some.injEq] at h3
      simp [h3] at h
    · rw [List.take_add_one, List.take_add_one, hn, List.getElem?_map, List.getElem?_map, hg, hgm, Option.map_some, Option.map_some, show x.who = y.who by simpa using h]
  · have : t = ml.length := by omega
    subst this
    rw [List.take_of_length_le (by simp), List.take_of_length_le (by simp; omega)] at hn
    exact ⟨by rw [decide_eq_true hn], X1⟩
theorem Q5v (hr : Row w o a (s.ml.flatMap Mem.C)) (ok : Tags w o) (hs : s.ok) (hw : Row w o wa (l.flatMap Wr.C)) (hlw : l.map Wr.p = cg.ws) :
    Calls Try.prog 35 #[.agg #[.slice a s.ml.length c, .int .i64 s.ep], chgV cg wa wc oa oc] w (MsG w o (beginM s cg)) := by
  have hle := hs.le
  have h0 := hs.ep0
  have h1 := hs.ep1
  have hlen : l.length = cg.ws.length := by rw [← hlw]; simp
  refine (Q0x.go a s.ml.length c s.ep cg.kd cg.who cg.pub cg.lim wa cg.ws.length wc oa cg.old.length oc (R := MsR w o (beginM s cg)) ?_).mono fun x w' ⟨v, he, h⟩ => h.of he
  unfold Q0x.N
  refine ⟨by omega, by omega, fun hge w14 X14 => ?_, fun hlt => ⟨fun hne w21 X21 => ?_, fun heq w18 p25 p26 p27 X18 hp => ?_⟩⟩
  · unfold beginM; rw [if_pos hge]; exact MsR.zero (Step.of_no X14 ok) 2
  · unfold beginM; rw [if_neg (by omega), if_neg hne]; exact MsR.zero (Step.of_no X21 ok) 10
  have hM : beginM s cg = if (nowM s.ml).map Mem.who = cg.ws.map Prod.fst then (⟨s.ml, s.ep + 1⟩, 0) else (MS.z, 10) := by unfold beginM; rw [if_neg (by omega), if_pos heq]
  have hws : cg.ws.map Prod.fst = l.map Wr.who := by rw [← hlw, List.map_map]; rfl
  rw [hM, hws, ← hlen]
  obtain ⟨s18, M18⟩ := Step.priv X18 hp ok
  have g : ∀ p ∈ [p25, p26, p27], w.heap.size ≤ p := fun p h => (hp p h).1
  refine (Q5a (hr.step s18) s18.ok (by omega) s.ep).mono fun x w30 ⟨o30, na, nc, he, s30', rn, _⟩ => ⟨_, _, _, he, M18.keep s30' fun _ _ => id, ?_⟩
  have s30 := s18.trans s30'
  have M30 := M18.step s30'
  have hnl : (nowM s.ml).length ≤ s.ml.length := List.length_filter_le _ _
  refine (Q3v rn.1 (hw.step s30).1 (by omega)).mono fun x w33 ⟨he, X33⟩ => ⟨_, he, X33.kept, fun hf w36 X36 => ?_, fun ht => ?_⟩
  all_goals have s33' := Step.of_no X33 s30.ok
  all_goals have s33 := s30.trans s33'
  all_goals have M33 := M30.step s33'
  · rw [if_neg (of_decide_eq_false hf)]
    have s36 := Step.stores X36 s33.ok (M33.sub (M := [p27]) (by simp)) (by simp)
    exact MsR.zero (s33.trans' s36 fun i hi => .inr (g i (by simp at hi ⊢; omega))) 10
  · rw [if_pos (of_decide_eq_true ht)]
    refine (Q2b s33.ok (hr.step s33).1 (by omega)).mono fun x w39 ⟨o39, ca, cc, he, s39', r39⟩ => ⟨_, _, _, he, (M33.sub (M := [p25, p27]) (by simp)).keep s39' fun _ _ => id, by omega, by omega, fun w43 X43 => ?_⟩
    have s39 := s33.trans s39'
    have s43' := Step.stores X43 s39.ok ((M33.step s39').sub (M := [p25, p27]) (by simp)) (by simp [or_comm])
    have s43 : Step no w o w43 _ := s39.trans' s43' fun i hi => .inr (g i (by simp at hi ⊢; omega))
    have r43 := r39.step s43' fun k hk => .inl (M33.lt (p := k) (by simp at hk ⊢; omega))
    exact ⟨_, ca, cc, rfl, noStep (K := no) s43, r43.give s43 s33.size, r43.le⟩
theorem Q1s (hr : Row w o a (s.ml.flatMap Mem.C)) (ok : Tags w o) (hs : s.ok) (hw : Row w o wa (l.flatMap Wr.C)) (hlw : l.map Wr.p = cg.ws) (hwl : l.length < 1000000) (hol : cg.old.length < 1000000) :
    Calls Try.prog 10 #[.agg #[.slice a s.ml.length c, .int .i64 s.ep], chgV cg wa wc oa oc] w (MsG w o (applyM s cg)) := by
  refine (Q0L.go a s.ml.length c s.ep cg.kd cg.who cg.pub cg.lim wa cg.ws.length wc oa cg.old.length oc (R := MsR w o (applyM s cg)) ?_).mono fun x w' ⟨v, he, h⟩ => h.of he
  unfold Q0L.N
  intro w11 p12 p13 p14 X11 hp
  obtain ⟨s11, M11⟩ := Step.priv X11 hp ok
  have g : ∀ p ∈ [p12, p13, p14], w.heap.size ≤ p := fun p h => (hp p h).1
  refine (Q3B (hw.step s11).1 hlw hwl hol).mono fun x w17 ⟨he, X17⟩ => ⟨_, he, X17.kept, fun hf w20 X20 => ?_, fun ht => ?_⟩
  all_goals have s17' := Step.of_no X17 s11.ok
  all_goals have s17 := s11.trans s17'
  all_goals have M17 := M11.step s17'
  · have s20 := Step.stores X20 s17'.ok (M17.sub (M := [p14]) (by simp)) (by simp)
    unfold applyM; rw [if_neg (by rw [hf]; decide)]
    exact MsR.zero (s17.trans' s20 fun i hi => .inr (g i (by simp at hi ⊢; omega))) 1
  have fin : ∀ {r : MS × Int} {x : Ending} {w26 w28 : World}, MsG w17 (grow w11 (tags w o [p12, p13, p14])) r x w26 → ∃ (a' : Option Addr) (n' c' : Nat) (ep' cd' : Int), x = .returned (.tuple #[.agg #[.slice a' n' c', .int .i64 ep'], .int .i64 cd']) ∧ Keep [p14] w17 w26 ∧ ∀ w28, Ext (fun b => b = p14) w26 w28 → MsR w o r (.tuple #[.agg #[.slice a' n' c', .int .i64 ep'], .int .i64 cd']) w28 := by
    rintro r x w26 w28 ⟨o26, a', c', he, s26, r26, hc⟩
    refine ⟨a', _, c', _, _, he, (M17.sub (M := [p14]) (by simp)).keep s26 fun _ _ => id, fun w28 X28 => ?_⟩
    have s28' := Step.stores X28 s26.ok ((M17.step s26).sub (M := [p14]) (by simp)) (by simp)
    have s28 := (s17.trans s26).trans' s28' fun i hi => .inr (g i (by simp at hi ⊢; omega))
    exact ⟨_, a', c', rfl, s28, r26.step s28', hc⟩
  unfold applyM
  rw [if_pos ht]
  refine ⟨fun h1 => ?_, fun h1 => ⟨fun h2 => ?_, fun h2 => ?_⟩⟩
  · rw [if_pos h1]
    exact (Q4H (hr.step s17) s17.ok hs).mono fun x w26 h => fin (w28 := w) h
  · rw [if_neg h1, if_pos h2]
    exact (Q4L (hr.step s17) s17.ok hs).mono fun x w26 h => fin (w28 := w) h
  · rw [if_neg h1, if_neg h2]
    exact (Q5v (hr.step s17) s17.ok hs (hw.step s17) hlw).mono fun x w26 h => fin (w28 := w) h
end
open W (OwnB)
theorem inf5 : (Try.prog.info? 5).map (fun i => (i.zero, i.size, i.bytes)) = some (some (.int .u8 0), 1, 1) := by kernel_rfl
def Mem.z : Mem := ⟨0, 0, 0, 0, 0⟩
def Mem.V (m : Mem) : Value := .agg #[.int .i64 m.who, .int .u64 m.pub, .int .i64 m.fr, .int .i64 m.to_, .int .i64 m.lim]
def newM (p : Int) : MS := ⟨[⟨0, p, 0, -1, 0⟩], -1⟩
def findM (l : List Mem) (x : Int) : Mem × Bool := if isAt l x = true then ((l[findI l x]?).getD Mem.z, true) else (Mem.z, false)
theorem newM_ok (p : Int) : (newM p).ok := ⟨List.pairwise_singleton _ _, fun m hm => by simp [newM] at hm; subst hm; exact ⟨by show (0 : Int) ≤ 0; decide, by show (0 : Int) < 8; decide⟩, by show (-1 : Int) ≤ -1; decide, by show (-1 : Int) < 20; decide⟩
section
variable {s : MS} {c : Chg} {l : List Mem}
theorem Sorted.insert (h : Sorted l) {m : Mem} (hn : isAt l m.who = false) : Sorted (l.take (findI l m.who) ++ m :: l.drop (findI l m.who)) := by
  have hb : ∀ x ∈ l.drop (findI l m.who), m.who < x.who := fun x hx => by
    obtain ⟨j, hj⟩ := List.getElem?_of_mem hx
    rw [List.getElem?_drop] at hj
    have hlt : findI l m.who < l.length := by have := (List.getElem?_eq_some_iff.1 hj).1; omega
    have hg : l[findI l m.who]? = some l[findI l m.who] := List.getElem?_eq_getElem hlt
    have h1 := Q3Z hg
    have h2 : m.who ≠ (l[findI l m.who]).who := fun e => by
      unfold isAt at hn; rw [hg] at hn; exact of_decide_eq_false hn e.symm
    rcases Nat.eq_zero_or_pos j with rfl | hp
    · rw [Nat.add_zero, hg] at hj; cases hj; omega
    · have := h.get hg hj (by omega); omega
  have ha : ∀ x ∈ l.take (findI l m.who), x.who < m.who := fun x hx => by
    obtain ⟨j, hj⟩ := List.getElem?_of_mem hx
    rw [List.getElem?_take] at hj
    split at hj
    · exact Q4W hj (by assumption)
    · cases hj
  have h0 : Sorted (l.take (findI l m.who) ++ l.drop (findI l m.who)) := by rw [List.take_append_drop]; exact h
  unfold Sorted at h0 ⊢
  rw [List.pairwise_append] at h0 ⊢
  refine ⟨h0.1, List.pairwise_cons.2 ⟨hb, h0.2.1⟩, fun x hx y hy => ?_⟩
  rcases List.mem_cons.1 hy with rfl | hy
  · exact ha x hx
  · exact h0.2.2 x hx y hy
theorem Sorted.set (h : Sorted l) {i : Nat} {m m' : Mem} (hi : l[i]? = some m) (hw : m'.who = m.who) : Sorted (l.set i m') := by
  unfold Sorted at h ⊢
  rw [List.pairwise_iff_getElem] at h ⊢
  intro a b ha hb hab
  simp only [List.length_set] at ha hb
  have hm : (l[i]'(List.getElem?_eq_some_iff.1 hi).1) = m := (List.getElem?_eq_some_iff.1 hi).2
  simp only [List.getElem_set]
  split <;> split
  · omega
  · rename_i h1 h2; subst h1; rw [hw, ← hm]; exact h _ _ _ _ hab
  · rename_i h1 h2; subst h2; rw [hw, ← hm]; exact h _ _ _ _ hab
  · exact h _ _ _ _ hab
theorem Q5m (h : rightM c = true) : 0 ≤ c.who ∧ c.who < 8 := by
  unfold rightM at h
  by_cases hw : 0 ≤ c.who ∧ c.who < 8
  · exact hw
  · rw [if_neg hw] at h; cases h
theorem Q3A (h : (inviteM s c).2 = 0) : isAt s.ml c.who = false ∧ (inviteM s c).1 = ⟨s.ml.take (findI s.ml c.who) ++ ⟨c.who, c.pub, s.ep + 1, -1, 0⟩ :: s.ml.drop (findI s.ml c.who), s.ep⟩ := by
  unfold inviteM at h ⊢
  by_cases hi : isAt s.ml c.who = true
  · rw [if_pos hi] at h; cases h
  · rw [if_neg hi]; exact ⟨by simpa using hi, rfl⟩
theorem Q3I (h : (revokeM s c).2 = 0) : ∃ m, s.ml[findI s.ml c.who]? = some m ∧ m.who = c.who ∧ m.to_ = -1 ∧ (revokeM s c).1 = ⟨s.ml.set (findI s.ml c.who) { m with to_ := if s.ep < 0 then -2 else s.ep, lim := c.lim }, s.ep⟩ := by
  unfold revokeM at h ⊢
  by_cases hi : isAt s.ml c.who = true
  · obtain ⟨m, hm, hw⟩ := Q1X hi
    rw [if_pos hi, hm] at h ⊢
    simp only [] at h ⊢
    by_cases ht : m.to_ = -1
    · rw [if_pos ht]; exact ⟨m, rfl, hw, ht, rfl⟩
    · rw [if_neg ht] at h; cases h
  · rw [if_neg hi] at h; cases h
theorem Q5H (h : (beginM s c).2 = 0) : (beginM s c).1 = ⟨s.ml, s.ep + 1⟩ ∧ s.ep + 1 < 20 := by
  unfold beginM at h ⊢
  by_cases h1 : s.ep + 1 ≥ 20
  · rw [if_pos h1] at h; cases h
  · rw [if_neg h1] at h ⊢
    by_cases h2 : ((c.old.length : Int) == 0) = decide (s.ep < 0)
    · rw [if_pos h2] at h ⊢
      by_cases h3 : (nowM s.ml).map Mem.who = c.ws.map Prod.fst
      · rw [if_pos h3]; exact ⟨rfl, by omega⟩
      · rw [if_neg h3] at h; cases h
    · rw [if_neg h2] at h; cases h
theorem Q3l (h : (applyM s c).2 = 0) : rightM c = true ∧ ((c.kd = 1 ∧ (inviteM s c).2 = 0 ∧ applyM s c = inviteM s c) ∨ (c.kd = 2 ∧ (revokeM s c).2 = 0 ∧ applyM s c = revokeM s c) ∨ (c.kd ≠ 1 ∧ c.kd ≠ 2 ∧ (beginM s c).2 = 0 ∧ applyM s c = beginM s c)) := by
  unfold applyM at h ⊢
  by_cases hr : rightM c = true
  · rw [if_pos hr] at h ⊢
    refine ⟨hr, ?_⟩
    by_cases h1 : c.kd = 1
    · rw [if_pos h1] at h ⊢; exact .inl ⟨h1, h, rfl⟩
    · rw [if_neg h1] at h ⊢
      by_cases h2 : c.kd = 2
      · rw [if_pos h2] at h ⊢; exact .inr (.inl ⟨h2, h, rfl⟩)
      · rw [if_neg h2] at h ⊢; exact .inr (.inr ⟨h1, h2, h, rfl⟩)
  · rw [if_neg hr] at h; cases h
theorem mem_set {l : List Mem} {i : Nat} {x y : Mem} (h : x ∈ l.set i y) : x ∈ l ∨ x = y := List.mem_or_eq_of_mem_set h
theorem Q35 (hs : s.ok) (h : (applyM s c).2 = 0) : (applyM s c).1.ok := by
  obtain ⟨hr, hh⟩ := Q3l h
  have hw := Q5m hr
  rcases hh with ⟨_, h1, e⟩ | ⟨_, h1, e⟩ | ⟨_, _, h1, e⟩
  · obtain ⟨q1, q2⟩ := Q3A h1
    rw [e, q2]
    refine ⟨hs.sorted.insert (m := ⟨c.who, c.pub, s.ep + 1, -1, 0⟩) q1, fun m hm => ?_, hs.ep0, hs.ep1⟩
    rcases List.mem_append.1 hm with hm | hm
    · exact hs.who m (List.mem_of_mem_take hm)
    · rcases List.mem_cons.1 hm with rfl | hm
      · exact hw
      · exact hs.who m (List.mem_of_mem_drop hm)
  · obtain ⟨m, q1, q2, q3, q4⟩ := Q3I h1
    rw [e, q4]
    refine ⟨hs.sorted.set q1 rfl, fun x hx => ?_, hs.ep0, hs.ep1⟩
    rcases mem_set hx with hx | rfl
    · exact hs.who x hx
    · exact hs.who m (List.mem_of_getElem? q1)
  · obtain ⟨q1, q2⟩ := Q5H h1
    rw [e, q1]
    exact ⟨hs.sorted, hs.who, by show -1 ≤ s.ep + 1; have := hs.ep0; omega, q2⟩
theorem Q23 (h : Sorted l) {m : Mem} (hm : m ∈ l) : findM l m.who = (m, true) := by
  obtain ⟨i, hi⟩ := List.getElem?_of_mem hm
  have hlt := (List.getElem?_eq_some_iff.1 hi).1
  have hI : findI l m.who = i := Q4R (by omega) (fun j y hj hy => h.get hy hi hj) fun y hy => by rw [hi] at hy; cases hy; omega
  have hat : isAt l m.who = true := by unfold isAt; rw [hI, hi]; simp
  unfold findM
  rw [if_pos hat, hI, hi]; rfl
end
section
variable {w w' w1 : World} {o o' o1 : Own} {a : Option Addr} {c N : Nat} {l : List Wr} {ml : List Mem} {cs : List Value} {s : MS} {cg : Chg} {wa oa : Option Addr} {wc oc : Nat}
theorem Q4o (ok : Tags w o) (p : Int) : Calls Try.prog 20 #[.int .u64 p] w (fun x w' => ∃ o' a' c', x = .returned (.agg #[.slice a' (newM p).ml.length c', .int .i64 (newM p).ep]) ∧ Step no w o w' o' ∧ Row w' o' a' ((newM p).ml.flatMap Mem.C) ∧ (newM p).ml.length ≤ c') := by
  refine (Q18.go p (R := fun v w' => ∃ o' a' c', v = (.agg #[.slice a' (newM p).ml.length c', .int .i64 (newM p).ep]) ∧ Step no w o w' o' ∧ Row w' o' a' ((newM p).ml.flatMap Mem.C) ∧ (newM p).ml.length ≤ c') ?_).mono fun x w' ⟨v, he, o', a', c', hv, hw⟩ => ⟨o', a', c', by rw [he, hv], hw⟩
  unfold Q18.N
  intro w3 q4 p5 X3 hb hq hq' hp w7 X7
  have s3 := (Step.of_no X3 ok).tag (p := p5) (j := p5) (hp p5 (by simp)).1 (by have := (hp p5 (by simp)).2; omega)
  have h5 := hp p5 (by simp)
  have M3 : Mine [p5] w3 (tag (grow w o) p5 p5) := fun p hp' => by rw [show p = p5 by simpa using hp']; exact ⟨by omega, Q1n⟩
  have s7 := Step.stores X7 s3.ok M3 (by simp)
  have r3 : Row w3 (tag (grow w o) p5 p5) (some (blk q4)) ((newM p).ml.flatMap Mem.C) := ⟨RowAt.of_blk hb, fun _ ad ha => by cases ha; rw [tag_ne (by show q4 ≠ p5; omega)]; exact grow_ge hq⟩
  exact ⟨_, some (blk q4), 1, rfl, s3.trans' s7 fun i hi => .inr (by simp at hi; omega), r3.step s7, Nat.le_refl _⟩
end
/-! ### changes that are handed in -/
structure CR where
  kd : Int
  who : Int
  pub : Int
  lim : Int
  wa : Option Addr
  wc : Nat
  l : List Wr
  oa : Option Addr
  oc : Nat
  old : List UInt8
def CR.cg (p : CR) : Chg := ⟨p.kd, p.who, p.pub, p.lim, p.l.map Wr.p, p.old⟩
theorem CR.V (p : CR) : Value.agg #[.int .i64 p.kd, .int .i64 p.who, .int .u64 p.pub, .int .i64 p.lim, .slice p.wa p.l.length p.wc, .slice p.oa p.old.length p.oc] = chgV p.cg p.wa p.wc p.oa p.oc := by
  unfold chgV CR.cg; simp
section
variable {w w' w1 : World} {o o' o1 : Own} {a : Option Addr} {c N : Nat} {l : List Wr} {ml : List Mem} {cs : List Value} {s : MS} {cg : Chg} {wa oa : Option Addr} {wc oc : Nat}
abbrev WRow (N : Nat) (w : World) (o : Own) (a : Option Addr) (c : Nat) (l : List Wr) : Prop := LRow 60 2 N w o a l.length c (l.flatMap Wr.C)
theorem Q2p (ok : Tags w o) (hr : Row w o wa (l.flatMap Wr.C)) (hw : cg.ws = l.map Wr.p) (hl : l.length < 1000000) :
    Calls Try.prog 26 #[chgV cg wa wc oa oc] w (fun x w' => ∃ o' wa' wc', x = .returned (chgV cg wa' wc' oa oc) ∧ Step no w o w' o' ∧ Row w' o' wa' (l.flatMap Wr.C) ∧ l.length ≤ wc') := by
  have hlen : cg.ws.length = l.length := by rw [hw]; simp
  refine (Q0R.go cg.kd cg.who cg.pub cg.lim wa cg.ws.length wc oa cg.old.length oc (R := fun v w' => ∃ o' wa' wc', v = (chgV cg wa' wc' oa oc) ∧ Step no w o w' o' ∧ Row w' o' wa' (l.flatMap Wr.C) ∧ l.length ≤ wc') ?_).mono fun x w' ⟨v, he, o', a', c', hv, hw⟩ => ⟨o', a', c', by rw [he, hv], hw⟩
  unfold Q0R.N
  intro w15 p16 p17 p18 X15 hp
  obtain ⟨s15, M15⟩ := Step.priv X15 hp ok
  have g : ∀ p ∈ [p16, p17, p18], w.heap.size ≤ p := fun p h => (hp p h).1
  have hM15 : ∀ p ∈ [p16, p17, p18], p < w15.heap.size := fun p h => M15.lt h
  rw [hlen]
  refine ⟨fun m vs w1 => ∃ (t : Nat) (a1 : Option Addr) (c1 : Nat) (o1 : Own), vs = [.int .i64 t, .int .i64 0, .int .i64 0, .int .u64 0, .int .i64 0, .slice none 0 0, .slice none 0 0, .int .i64 cg.kd, .int .i64 cg.who, .int .u64 cg.pub, .int .i64 cg.lim, .slice a1 (l.take t).length c1, .slice oa cg.old.length oc] ∧ m + t = l.length ∧ Step no w o w1 o1 ∧ Step (fun j => w15.heap.size ≤ j ∨ j ∈ [p16, p17, p18]) w15 (tags w o [p16, p17, p18]) w1 o1 ∧ WRow w15.heap.size w1 o1 a1 c1 (l.take t), l.length, ⟨0, none, 0, _, rfl, rfl, s15, Step.refl _ s15.ok, LRow.nil _ _ _ _ _⟩, ?_⟩
  intro m w1 i0 k1 k2 k3 k4 k5a k5n k5c k6a k6n k6c k7 k8 k9 k10 k11a k11n k11c k12a k12n k12c hI
  obtain ⟨t, a1, c1, o1, hi, hm, s1, s15', r1⟩ := hI
  simp only [List.cons.injEq, Value.slice.injEq, Value.int.injEq, true_and, and_true] at hi
  obtain ⟨rfl, rfl, rfl, rfl, rfl, ⟨rfl, rfl, rfl⟩, ⟨rfl, rfl, rfl⟩, rfl, rfl, rfl, rfl, ⟨rfl, rfl, rfl⟩, ⟨rfl, rfl, rfl⟩⟩ := hi
  have M1 := M15.step s15'
  refine ⟨fun ht => ?_, fun ht w53 X53 => ?_⟩
  · have htl : t < l.length := by omega
    have hg : l[t]? = some l[t] := List.getElem?_eq_getElem htl
    have htk : l.take (t + 1) = l.take t ++ [l[t]] := by rw [List.take_add_one, hg]; rfl
    generalize l[t] = x at *
    obtain ⟨ad, rfl⟩ := hr.1.faddr Wr.len (by decide) htl
    have hr1 := (hr.step s1).1
    refine ⟨ad, rfl, by omega, by omega, x.who, by rw [Int.toNat_natCast]; exact hr1.fcell Wr.len hg 0 rfl, by omega, by omega, x.a, x.b.length, x.c, by rw [Int.toNat_natCast]; exact hr1.fcell Wr.len hg 1 rfl, fun w42 q43 X42 hb hq hq' => ?_⟩
    have s42 := Step.of_no X42 s1.ok
    have r42 : WRow w15.heap.size w42 _ k11a k11c (l.take t) := LRow.step r1 s42 fun k h => h.elim
    obtain ⟨i, hi, hz, hsz, hby⟩ := info_of inf60
    have h15 := s15'.size
    obtain ⟨a', c', w45, o45, hrun, s45, hrow, _⟩ := LRow.push (ty := 50) Try.underlying50 hi hz hsz hby rfl (by decide) r42 s42.ok (p := q43) (by omega) hq' (xa := some (blk q43)) (m := 1) (xc := 1) (news := x.C) rfl (RowAt.of_blk hb) (fun u hu => by
      simp only [Wr.C, List.mem_cons, List.not_mem_nil, or_false] at hu
      rcases hu with rfl | rfl <;> rfl) (by rw [List.length_take]; omega) (by rw [List.length_take]; omega)
    refine ⟨a', _, c', w45, hrun, (M1.step s42).keep s45 (fun p hp' => by have := hM15 p hp'; omega), by omega, by omega, fun w46 X46 => ?_⟩
    have s46 := Step.stores X46 s45.ok ((((M1.step s42).step s45)).sub (M := [p18]) (by simp)) (by simp)
    have r46 := hrow.step s46 fun k hk => .inl (hM15 k (by simp at hk ⊢; omega))
    have h15w := s15.size
    have hcells : (l.take t).flatMap Wr.C ++ x.C = (l.take (t + 1)).flatMap Wr.C := by rw [htk]; simp
    have hlen2 : (l.take t).length + 1 = (l.take (t + 1)).length := by rw [htk]; simp
    rw [hcells, hlen2] at r46
    refine ⟨m - 1, by omega, t + 1, a', c', _, by rw [← hlen2]; rfl, by omega, ((s1.trans s42).trans' s45 fun j hj => .inr (by omega)).trans' s46 fun j hj => .inr (g j (by simp at hj ⊢; omega)), (s15'.trans (s42.none.trans (s45.mono fun j hj _ => .inl hj))).trans (s46.mono fun j hj _ => .inr (by simp at hj ⊢; omega)), r46⟩
  · have htt : t = l.length := by omega
    subst htt
    rw [List.take_length] at r1 ⊢
    have s53 := Step.stores X53 s1.ok (M1.sub (M := [p17]) (by simp)) (by simp)
    have sF : Step no w o w53 _ := s1.trans' s53 fun j hj => .inr (g j (by simp at hj ⊢; omega))
    have r53 : WRow w15.heap.size w53 _ k11a k11c l := LRow.step r1 s53 fun k hk => .inl (hM15 k (by simp at hk ⊢; omega))
    refine ⟨_, k11a, k11c, ?_, noStep (K := no) sF, r53.give sF s15.size, r53.le⟩
    unfold chgV
    rw [hlen]
end
open W (OwnB)
end Go.Proofs.Ytaifegpikhjiiaa
namespace Go.Proofs.Ytaifegpikhjiiaa
open Go Go.Mx Go.Proofs
open W (OwnB)
section
variable {w w' w1 : World} {o o' o1 : Own} {a : Option Addr} {c : Nat} {s : MS} {m : Mem} {cg : Chg}
end
end Go.Proofs.Ytaifegpikhjiiaa