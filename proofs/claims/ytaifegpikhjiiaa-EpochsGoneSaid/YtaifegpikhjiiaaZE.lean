/- Epochs: predicates. -/
import Derived.Test.YtaifegpikhjiiaaZC
import Derived.Test.YtaifegpikhjiiaaZD
import Derived.Test.YtaifegpikhjiiaaZA
set_option linter.unusedVariables false
set_option linter.unusedSimpArgs false
set_option maxRecDepth 100000
set_option maxHeartbeats 4000000
namespace Go.Proofs.Ytaifegpikhjiiaa
open Go Go.Mx Go.Proofs
def Q1d.M (o1 : Option Addr) (a1 a0 : Int) (R : RW) (w : World) : Prop :=
 bif decide (a1 < 0) then (
 R (.tuple #[.pointer none, .int .i64 1]) w) else (
 bif decide (a1 ≥ 8) then (
 R (.tuple #[.pointer none, .int .i64 1]) w) else (
 bif Option.isNone o1 then (
 R (.tuple #[.pointer none, .int .i64 23]) w) else (
 thenW (w.alloc (.cells #[.pointer o1, .int .i64 a1, .int .u64 a0, .slice none 0 0, .slice none 0 0] 93)) fun a2 =>
 R (.tuple #[.pointer (some (blk w.heap.size)), .int .i64 0]) a2)))

theorem Q1d.ok (o1 : Option Addr) (a1 a0 : Int) {R : RW} {w : World} (h : Q1d.M o1 a1 a0 R w) : Calls Try.prog 19 #[.pointer o1, .int .i64 a1, .int .u64 a0] w fun e w' => ∃ v, e = .returned v ∧ R v w' :=
  Q0l follows (H := []) (args := [.pointer o1, .int .i64 a1, .int .u64 a0]) (cast (by kernel_rfl) h)

def Q1d.N (o1 : Option Addr) (a0 a1 : Int) (R : RW) (w : World) : Prop :=
 (a0 < 0 →
 R (.tuple #[.pointer none, .int .i64 1]) w) ∧
 ((0 : Int) ≤ a0 →
 (a0 ≥ 8 →
 R (.tuple #[.pointer none, .int .i64 1]) w) ∧
 (a0 < 8 →
 (o1 = none →
 R (.tuple #[.pointer none, .int .i64 23]) w) ∧
 (o1 ≠ none →
 ∀ (a2 : World) (q8 : Nat), Ext no w a2 → Blk a2 q8 93 [.pointer o1, .int .i64 a0, .int .u64 a1, .slice none 0 0, .slice none 0 0] → w.heap.size ≤ q8 → q8 < a2.heap.size →
 R (.tuple #[.pointer (some (blk q8)), .int .i64 0]) a2)))

theorem Q1d.up (o1 : Option Addr) (a1 a0 : Int) {R : RW} {w : World} (h : Q1d.N o1 a1 a0 R w) : Q1d.M o1 a1 a0 R w := by
  unfold Q1d.M
  unfold Q1d.N at h
  refine bif_of (fun c4 => ?_) (fun c4 => ?_)
  ·have h := h.1 (of_decide_eq_true c4)
   exact h
  have h := h.2 (Int.not_lt.1 (of_decide_eq_false c4))
  refine bif_of (fun c5 => ?_) (fun c5 => ?_)
  ·have h := h.1 (of_decide_eq_true c5)
   exact h
  have h := h.2 (Int.not_le.1 (of_decide_eq_false c5))
  refine bif_of (fun c6 => ?_) (fun c6 => ?_)
  ·have h := h.1 (Q1z c6)
   exact h
  have h := h.2 (Q1A c6)
  refine Q01 fun a2 e7 => ?_
  have h := h a2 w.heap.size ((Ext.refl no w).x_alloc e7) (Blk.of_new e7) ((Ext.refl no w)).size (Q0w e7)
  exact h

theorem Q1d.go (o1 : Option Addr) (a1 a0 : Int) {R : RW} {w : World} (h : Q1d.N o1 a1 a0 R w) : Calls Try.prog 19 #[.pointer o1, .int .i64 a1, .int .u64 a0] w fun e w' => ∃ v, e = .returned v ∧ R v w' := Q1d.ok o1 a1 a0 (Q1d.up o1 a1 a0 h)
def Q0Q.M (r1 : Option Addr) (R : RW) (w : World) : Prop :=
 bif Option.isNone r1 then (
 R (.int .i64 0) w) else (
 r1.elim False fun a2 =>
 ∃ (a3 : Option Addr) (a0 a1 : Nat), w.cell? (a2.add 3) = some (.slice a3 a0 a1) ∧
 R (.int .i64 (a0 : Int)) w)

theorem Q0Q.ok (r1 : Option Addr) {R : RW} {w : World} (h : Q0Q.M r1 R w) : Calls Try.prog 21 #[.pointer r1] w fun e w' => ∃ v, e = .returned v ∧ R v w' :=
  Q0l follows (H := []) (args := [.pointer r1]) (cast (by kernel_rfl) h)

def Q0Q.N (r1 : Option Addr) (R : RW) (w : World) : Prop :=
 (r1 = none →
 R (.int .i64 0) w) ∧
 (r1 ≠ none →
 ∃ a3 : Addr, r1 = some a3 ∧
 ∃ (a2 : Option Addr) (a0 a1 : Nat), w.cell? (a3.add 3) = some (.slice a2 a0 a1) ∧
 R (.int .i64 (a0 : Int)) w)

theorem Q0Q.up (r1 : Option Addr) {R : RW} {w : World} (h : Q0Q.N r1 R w) : Q0Q.M r1 R w := by
  unfold Q0Q.M
  unfold Q0Q.N at h
  refine bif_of (fun c2 => ?_) (fun c2 => ?_)
  ·have h := h.1 (Q1z c2)
   exact h
  have h := h.2 (Q1A c2)
  obtain ⟨a3, a4, h⟩ := h
  refine Q03 a4 ?_
  obtain ⟨a2, a0, a1, a5, h⟩ := h
  refine ⟨a2, a0, a1, a5, ?_⟩
  exact h

theorem Q0Q.go (r1 : Option Addr) {R : RW} {w : World} (h : Q0Q.N r1 R w) : Calls Try.prog 21 #[.pointer r1] w fun e w' => ∃ v, e = .returned v ∧ R v w' := Q0Q.ok r1 (Q0Q.up r1 h)
theorem Q0Q.run (r1 : Option Addr) {V : Value} {Q : World → Prop} {w : World} (h : Q0Q.N r1 (fun v w' => v = V ∧ Q w') w) : Calls Try.prog 21 #[.pointer r1] w (Ret V Q) := (Q0Q.go r1 h).mono fun e w' ⟨v, he, hv, hq⟩ => ⟨by rw [he, hv], hq⟩

def Q0W.M (r1 : Option Addr) (a0 : Int) (R : RW) (w : World) : Prop :=
 bif Option.isNone r1 then (
 R (.tuple #[.int .u64 0, .int .i64 23]) w) else (
 bif decide (a0 < 0) then (
 R (.tuple #[.int .u64 0, .int .i64 2]) w) else (
 r1.elim False fun a3 =>
 ∃ (ad : Option Addr) (a4 ab : Nat), w.cell? (a3.add 3) = some (.slice ad a4 ab) ∧
 bif decide (a0 ≥ (a4 : Int)) then (
 R (.tuple #[.int .u64 0, .int .i64 2]) w) else (
 r1.elim False fun a5 =>
 ∃ (a6 : Option Addr) (a8 ac : Nat), w.cell? (a5.add 3) = some (.slice a6 a8 ac) ∧
 a6.elim False fun a7 =>
 0 ≤ (a0 : Int) ∧ (a0 : Int) < (a8 : Int) ∧
 ∃ (x8 : Int), w.cell? (a7.add (Int.toNat a0 * 1)) = some (.int .u64 x8) ∧
 bif x8 == 0 then (
 R (.tuple #[.int .u64 0, .int .i64 11]) w) else (
 r1.elim False fun a9 =>
 ∃ (a1 : Option Addr) (a2 aa : Nat), w.cell? (a9.add 3) = some (.slice a1 a2 aa) ∧
 a1.elim False fun af =>
 0 ≤ (a0 : Int) ∧ (a0 : Int) < (a2 : Int) ∧
 ∃ (ae : Int), w.cell? (af.add (Int.toNat a0 * 1)) = some (.int .u64 ae) ∧
 R (.tuple #[.int .u64 ae, .int .i64 0]) w))))

theorem Q0W.ok (r1 : Option Addr) (a0 : Int) {R : RW} {w : World} (h : Q0W.M r1 a0 R w) : Calls Try.prog 8 #[.pointer r1, .int .i64 a0] w fun e w' => ∃ v, e = .returned v ∧ R v w' :=
  Q0l follows (H := []) (args := [.pointer r1, .int .i64 a0]) (cast (by kernel_rfl) h)

def Q0W.N (r1 : Option Addr) (a0 : Int) (R : RW) (w : World) : Prop :=
 (r1 = none →
 R (.tuple #[.int .u64 0, .int .i64 23]) w) ∧
 (r1 ≠ none →
 (a0 < 0 →
 R (.tuple #[.int .u64 0, .int .i64 2]) w) ∧
 ((0 : Int) ≤ a0 →
 ∃ a5 : Addr, r1 = some a5 ∧
 ∃ (aa : Option Addr) (a1 a9 : Nat), w.cell? (a5.add 3) = some (.slice aa a1 a9) ∧
 (a0 ≥ (a1 : Int) →
 R (.tuple #[.int .u64 0, .int .i64 2]) w) ∧
 (a0 < (a1 : Int) →
 ∃ (a3 : Option Addr) (a6 a8 : Nat), w.cell? (a5.add 3) = some (.slice a3 a6 a8) ∧
 ∃ ac : Addr, a3 = some ac ∧
 0 ≤ (a0 : Int) ∧ (a0 : Int) < (a6 : Int) ∧
 ∃ (ab : Int), w.cell? (ac.add (Int.toNat a0 * 1)) = some (.int .u64 ab) ∧
 (ab = 0 →
 R (.tuple #[.int .u64 0, .int .i64 11]) w) ∧
 (ab ≠ 0 →
 ∃ (a4 : Option Addr) (a2 a7 : Nat), w.cell? (a5.add 3) = some (.slice a4 a2 a7) ∧
 ∃ ad : Addr, a4 = some ad ∧
 0 ≤ (a0 : Int) ∧ (a0 : Int) < (a2 : Int) ∧
 ∃ (ae : Int), w.cell? (ad.add (Int.toNat a0 * 1)) = some (.int .u64 ae) ∧
 R (.tuple #[.int .u64 ae, .int .i64 0]) w))))

theorem Q0W.up (r1 : Option Addr) (a0 : Int) {R : RW} {w : World} (h : Q0W.N r1 a0 R w) : Q0W.M r1 a0 R w := by
  unfold Q0W.M
  unfold Q0W.N at h
  refine bif_of (fun c3 => ?_) (fun c3 => ?_)
  ·have h := h.1 (Q1z c3)
   exact h
  have h := h.2 (Q1A c3)
  refine bif_of (fun c4 => ?_) (fun c4 => ?_)
  ·have h := h.1 (of_decide_eq_true c4)
   exact h
  have h := h.2 (Int.not_lt.1 (of_decide_eq_false c4))
  obtain ⟨a5, ag, h⟩ := h
  refine Q03 ag ?_
  obtain ⟨a9, aa, a8, ak, h⟩ := h
  refine ⟨a9, aa, a8, ak, ?_⟩
  refine bif_of (fun c8 => ?_) (fun c8 => ?_)
  ·have h := h.1 (of_decide_eq_true c8)
   exact h
  have h := h.2 (Int.not_le.1 (of_decide_eq_false c8))
  refine Q03 ag ?_
  obtain ⟨a2, a7, a6, am, h⟩ := h
  refine ⟨a2, a7, a6, am, ?_⟩
  obtain ⟨ao, aj, h⟩ := h
  refine Q03 aj ?_
  obtain ⟨ab, ah, h⟩ := h
  refine ⟨ab, ah, ?_⟩
  obtain ⟨al, ae, h⟩ := h
  refine ⟨al, ae, ?_⟩
  refine bif_of (fun ad => ?_) (fun ad => ?_)
  ·have h := h.1 (beq_t ad)
   exact h
  have h := h.2 (beq_f ad)
  refine Q03 ag ?_
  obtain ⟨a4, a1, a3, ai, h⟩ := h
  refine ⟨a4, a1, a3, ai, ?_⟩
  obtain ⟨ap, ac, h⟩ := h
  refine Q03 ac ?_
  obtain ⟨ab, ah, h⟩ := h
  refine ⟨ab, ah, ?_⟩
  obtain ⟨an, af, h⟩ := h
  refine ⟨an, af, ?_⟩
  exact h

theorem Q0W.go (r1 : Option Addr) (a0 : Int) {R : RW} {w : World} (h : Q0W.N r1 a0 R w) : Calls Try.prog 8 #[.pointer r1, .int .i64 a0] w fun e w' => ∃ v, e = .returned v ∧ R v w' := Q0W.ok r1 a0 (Q0W.up r1 a0 h)
theorem Q0W.run (r1 : Option Addr) (a0 : Int) {V : Value} {Q : World → Prop} {w : World} (h : Q0W.N r1 a0 (fun v w' => v = V ∧ Q w') w) : Calls Try.prog 8 #[.pointer r1, .int .i64 a0] w (Ret V Q) := (Q0W.go r1 a0 h).mono fun e w' ⟨v, he, hv, hq⟩ => ⟨by rw [he, hv], hq⟩

def Q17.M (a3 : Int) (R : RW) (w : World) : Prop :=
 Calls Try.prog 62 #[.slice none 0 0, .int .u64 (IntKind.u64.wrap a3)] w fun a5 a4 => ∃ (a0 : Option Addr) (a2 a1 : Nat), a5 = .returned (.slice a0 a2 a1) ∧
 R (.slice a0 a2 a1) a4

theorem Q17.ok (a0 : Int) {R : RW} {w : World} (h : Q17.M a0 R w) : Calls Try.prog 32 #[.int .i64 a0] w fun e w' => ∃ v, e = .returned v ∧ R v w' :=
  Q0l follows (H := []) (args := [.int .i64 a0]) (cast (by kernel_rfl) h)

def Q17.N (a3 : Int) (R : RW) (w : World) : Prop :=
 Calls Try.prog 62 #[.slice none 0 0, .int .u64 (IntKind.u64.wrap a3)] w fun a5 a4 => ∃ (a0 : Option Addr) (a2 a1 : Nat), a5 = .returned (.slice a0 a2 a1) ∧
 R (.slice a0 a2 a1) a4

theorem Q17.up (a0 : Int) {R : RW} {w : World} (h : Q17.N a0 R w) : Q17.M a0 R w := by
  unfold Q17.M
  unfold Q17.N at h
  refine h.mono fun a5 a4 h => ?_
  obtain ⟨a1, a3, a2, he, h⟩ := h
  refine ⟨a1, a3, a2, he, ?_⟩
  exact h

theorem Q17.go (a0 : Int) {R : RW} {w : World} (h : Q17.N a0 R w) : Calls Try.prog 32 #[.int .i64 a0] w fun e w' => ∃ v, e = .returned v ∧ R v w' := Q17.ok a0 (Q17.up a0 h)
abbrev Q13.J1 (j8 : Option Addr) (j9 a8 : Nat) (a5 : Int) (I0 : Nat → List Value → World → Prop) (m5 : Nat) (n1 : Int) (R : RW) (a3 : World) : Prop :=
 0 ≤ ((IntKind.i64.wrap ((56 : Int) - (IntKind.i64.wrap ((8 : Int) * a5)))) : Int) ∧
 thenW (a3.alloc (.cells #[.int .u8 (IntKind.u8.wrap (Int.fdiv n1 (2 ^ (min (Int.toNat (IntKind.i64.wrap ((56 : Int) - (IntKind.i64.wrap ((8 : Int) * a5))))) (IntKind.bits .u64)))))] 5)) fun a6 =>
 ∃ (a0 : Option Addr) (a4 a2 : Nat) (a1 : World), (Builtin.append_ #[29, 29] 29 #[.slice j8 j9 a8, .slice (some (blk a3.heap.size)) 1 1]).run Try.prog a6 = .ok (.slice a0 a4 a2) a1 ∧
 ∃ a7, a7 < m5 ∧ I0 a7 [.slice a0 a4 a2, .int .i64 (IntKind.i64.wrap (a5 + 1))] a1

def Q13.M (n1 : Int) (R : RW) (w : World) : Prop :=
 ∃ (I0 : Nat → List Value → World → Prop) (m4 : Nat), I0 m4 [.slice none 0 0, .int .i64 0] w ∧ ∀ (m5 : Nat) (a2 : World) (a1 : Option Addr) (a3 a0 : Nat) (t3 : Int), I0 m5 [.slice a1 a3 a0, .int .i64 t3] a2 →
 bif decide (t3 < 8) then (
 Q13.J1 a1 a3 a0 t3 I0 m5 n1 R a2) else (
 R (.slice a1 a3 a0) a2)

theorem Q13.ok (n1 : Int) {R : RW} {w : World} (h : Q13.M n1 R w) : Calls Try.prog 33 #[.int .u64 n1] w fun e w' => ∃ v, e = .returned v ∧ R v w' :=
  Q0l follows (H := [(0, [0], [(2, (.one .slice)), (4, (.one (.int .i64)))])]) (args := [.int .u64 n1]) (cast (by kernel_rfl) h)

def Q13.N (n1 : Int) (R : RW) (w : World) : Prop :=
 ∃ (I0 : Nat → List Value → World → Prop) (m4 : Nat), I0 m4 [.slice none 0 0, .int .i64 0] w ∧ ∀ (m5 : Nat) (a5 : World) (a7 : Option Addr) (a8 a6 : Nat) (t3 : Int), I0 m5 [.slice a7 a8 a6, .int .i64 t3] a5 →
 (t3 < 8 →
 (-9223372036854775808 : Int) ≤ ((8 : Int) * t3) ∧ ((8 : Int) * t3) < 9223372036854775808 ∧
 (-9223372036854775808 : Int) ≤ ((56 : Int) - ((8 : Int) * t3)) ∧ ((56 : Int) - ((8 : Int) * t3)) < 9223372036854775808 ∧
 0 ≤ (((56 : Int) - ((8 : Int) * t3)) : Int) ∧
 ∀ (a4 : World) (q9 : Nat), Ext no a5 a4 → Blk a4 q9 5 [.int .u8 (IntKind.u8.wrap (Int.fdiv n1 (2 ^ (min (Int.toNat ((56 : Int) - ((8 : Int) * t3))) (IntKind.bits .u64)))))] → a5.heap.size ≤ q9 → q9 < a4.heap.size →
 ∃ (a1 : Option Addr) (a3 a0 : Nat) (a2 : World), (Builtin.append_ #[29, 29] 29 #[.slice a7 a8 a6, .slice (some (blk q9)) 1 1]).run Try.prog a4 = .ok (.slice a1 a3 a0) a2 ∧
 (-9223372036854775808 : Int) ≤ (t3 + 1) ∧ (t3 + 1) < 9223372036854775808 ∧
 ∃ a9, a9 < m5 ∧ I0 a9 [.slice a1 a3 a0, .int .i64 (t3 + 1)] a2) ∧
 ((8 : Int) ≤ t3 →
 R (.slice a7 a8 a6) a5)

theorem Q13.up (n1 : Int) {R : RW} {w : World} (h : Q13.N n1 R w) : Q13.M n1 R w := by
  unfold Q13.M
  unfold Q13.N at h
  obtain ⟨I0, m4, h0, h⟩ := h
  refine ⟨I0, m4, h0, fun m5 a2 ab a9 a8 t3 hI => ?_⟩
  have h := h m5 a2 ab a9 a8 t3 hI
  refine bif_fo (fun c7 => ?_) (fun c7 => ?_)
  ·have h := h.2 (Int.not_lt.1 (of_decide_eq_false c7))
   exact h
  have h := h.1 (of_decide_eq_true c7)
  unfold Q13.J1
  obtain ⟨a1, a0, h⟩ := h
  try rw [w64 a1 a0]
  obtain ⟨a1, a0, h⟩ := h
  try rw [w64 a1 a0]
  obtain ⟨hp, h⟩ := h
  refine ⟨hp, ?_⟩
  refine Q01 fun a7 e8 => ?_
  have h := h a7 a2.heap.size ((Ext.refl no a2).x_alloc e8) (Blk.of_new e8) ((Ext.refl no a2)).size (Q0w e8)
  obtain ⟨a4, a6, a3, a5, hr, h⟩ := h
  refine ⟨a4, a6, a3, a5, hr, ?_⟩
  obtain ⟨a1, a0, h⟩ := h
  try rw [w64 a1 a0]
  obtain ⟨aa, hk, h⟩ := h
  exact ⟨aa, hk, h⟩

theorem Q13.go (n1 : Int) {R : RW} {w : World} (h : Q13.N n1 R w) : Calls Try.prog 33 #[.int .u64 n1] w fun e w' => ∃ v, e = .returned v ∧ R v w' := Q13.ok n1 (Q13.up n1 h)
abbrev Q0V.J1 (a9 : Int) (I0 : Nat → List Value → World → Prop) (m6 : Nat) (r1 : Option Addr) (R : RW) (az : World) : Prop :=
 thenW (az.drew) fun ai =>
 r1.elim False fun b7 =>
 ∃ (b0 : Option Addr), ai.cell? (b7.add 0) = some (.pointer b0) ∧
 r1.elim False fun b2 =>
 ∃ (a3 : Option Addr) (a4 af : Nat), ai.cell? (b2.add 3) = some (.slice a3 a4 af) ∧
 a3.elim False fun b4 =>
 0 ≤ (a9 : Int) ∧ (a9 : Int) < (a4 : Int) ∧
 ∃ (aw : Int), ai.cell? (b4.add (Int.toNat a9 * 1)) = some (.int .u64 aw) ∧
 r1.elim False fun b9 =>
 ∃ (a2 : Option Addr) (a1 ag : Nat), ai.cell? (b9.add 4) = some (.slice a2 a1 ag) ∧
 a2.elim False fun b6 =>
 0 ≤ (a9 : Int) ∧ (a9 : Int) < (a1 : Int) ∧
 ∃ (aq : Option Addr) (ap ao : Nat), ai.cell? (b6.add (Int.toNat a9 * 1)) = some (.slice aq ap ao) ∧
 Calls Try.prog 32 #[.int .i64 a9] ai fun ay ah => ∃ (a7 : Option Addr) (a8 a6 : Nat), ay = .returned (.slice a7 a8 a6) ∧
 ah.cell? (b6.add (Int.toNat a9 * 1)) = some (.slice aq ap ao) ∧
 ah.cell? (b9.add 4) = some (.slice a2 a1 ag) ∧
 ah.cell? (b4.add (Int.toNat a9 * 1)) = some (.int .u64 aw) ∧
 ah.cell? (b2.add 3) = some (.slice a3 a4 af) ∧
 ah.cell? (b7.add 0) = some (.pointer b0) ∧
 Calls Try.prog 69 #[.pointer b0, .int .u64 aw, .slice a7 a8 a6, .slice aq ap ao] ah fun av ar => ∃ (a5 : Option Addr) (a0 aj : Nat) (ad : Int), av = .returned (.tuple #[.slice a5 a0 aj, .int .i64 ad]) ∧
 bif ad != 0 then (
 R (.tuple #[]) ar) else (
 bif (a0 : Int) != 8 then (
 R (.tuple #[]) ar) else (
 ∃ (I2 : Nat → List Value → World → Prop) (bg : Nat), I2 bg [.int .i64 0] ar ∧ ∀ (b1 : Nat) (am : World) (au : Int), I2 b1 [.int .i64 au] am →
 bif decide (au < (a0 : Int)) then (
 a5.elim False fun bc =>
 0 ≤ (au : Int) ∧ (au : Int) < (a0 : Int) ∧
 ∃ (b8 : Int), am.cell? (bc.add (Int.toNat au * 1)) = some (.int .u8 b8) ∧
 thenW (am.drew) fun ak =>
 r1.elim False fun be =>
 ∃ (ae : Option Addr) (aa al : Nat), ak.cell? (be.add 3) = some (.slice ae aa al) ∧
 r1.elim False fun bf =>
 ∃ (ac : Option Addr) (ab an : Nat), ak.cell? (bf.add 3) = some (.slice ac ab an) ∧
 ac.elim False fun bd =>
 0 ≤ ((IntKind.i64.wrap (a9 - 1)) : Int) ∧ ((IntKind.i64.wrap (a9 - 1)) : Int) < (ab : Int) ∧
 ∃ (bb : Int), ak.cell? (bd.add (Int.toNat (IntKind.i64.wrap (a9 - 1)) * 1)) = some (.int .u64 bb) ∧
 0 ≤ (8 : Int) ∧
 ae.elim False fun ba =>
 0 ≤ ((IntKind.i64.wrap (a9 - 1)) : Int) ∧ ((IntKind.i64.wrap (a9 - 1)) : Int) < (aa : Int) ∧
 Q07 ak ((ba.add (Int.toNat (IntKind.i64.wrap (a9 - 1)) * 1)).add 0) ∧
 thenW (ak.setCell ((ba.add (Int.toNat (IntKind.i64.wrap (a9 - 1)) * 1)).add 0) (.int .u64 (IntKind.u64.wrap ((BitVec.ofInt (IntKind.bits .u64) (IntKind.u64.wrap (bb * 2 ^ (min (Int.toNat 8) (IntKind.bits .u64)))) ||| BitVec.ofInt (IntKind.bits .u64) (IntKind.u64.wrap b8)).toNat)))) fun ax =>
 ∃ b3, b3 < b1 ∧ I2 b3 [.int .i64 (IntKind.i64.wrap (au + 1))] ax) else (
 ∃ b5, b5 < m6 ∧ I0 b5 [.int .i64 (IntKind.i64.wrap (a9 - 1))] am)))

def Q0V.M (r1 : Option Addr) (R : RW) (w : World) : Prop :=
 r1.elim False fun a2 =>
 ∃ (ab : Option Addr) (a4 aa : Nat), w.cell? (a2.add 3) = some (.slice ab a4 aa) ∧
 ∃ (I0 : Nat → List Value → World → Prop) (m5 : Nat), I0 m5 [.int .i64 (IntKind.i64.wrap ((a4 : Int) - 1))] w ∧ ∀ (m6 : Nat) (a6 : World) (a7 : Int), I0 m6 [.int .i64 a7] a6 →
 bif decide (a7 > 0) then (
 r1.elim False fun a8 =>
 ∃ (a5 : Option Addr) (a3 ac : Nat), a6.cell? (a8.add 3) = some (.slice a5 a3 ac) ∧
 a5.elim False fun ah =>
 0 ≤ (a7 : Int) ∧ (a7 : Int) < (a3 : Int) ∧
 ∃ (ae : Int), a6.cell? (ah.add (Int.toNat a7 * 1)) = some (.int .u64 ae) ∧
 bif ae != 0 then (
 r1.elim False fun af =>
 ∃ (a1 : Option Addr) (a0 a9 : Nat), a6.cell? (af.add 3) = some (.slice a1 a0 a9) ∧
 a1.elim False fun ag =>
 0 ≤ ((IntKind.i64.wrap (a7 - 1)) : Int) ∧ ((IntKind.i64.wrap (a7 - 1)) : Int) < (a0 : Int) ∧
 ∃ (ad : Int), a6.cell? (ag.add (Int.toNat (IntKind.i64.wrap (a7 - 1)) * 1)) = some (.int .u64 ad) ∧
 bif ad == 0 then (
 Q0V.J1 a7 I0 m6 r1 R a6) else (
 R (.tuple #[]) a6)) else (
 R (.tuple #[]) a6)) else (
 R (.tuple #[]) a6)

theorem Q0V.ok (r1 : Option Addr) {R : RW} {w : World} (h : Q0V.M r1 R w) : Calls Try.prog 41 #[.pointer r1] w fun e w' => ∃ v, e = .returned v ∧ R v w' :=
  Q0l follows (H := [(0, [0], [(2, (.one (.int .i64)))]), (2, [0, 2, 69, 70], [(71, (.one (.int .i64)))])]) (args := [.pointer r1]) (cast (by kernel_rfl) h)

def Q0V.N (r1 : Option Addr) (R : RW) (w : World) : Prop :=
 ∃ a2 : Addr, r1 = some a2 ∧
 ∃ (b4 : Option Addr) (a3 b0 : Nat), w.cell? (a2.add 3) = some (.slice b4 a3 b0) ∧
 (-9223372036854775808 : Int) ≤ ((a3 : Int) - 1) ∧ ((a3 : Int) - 1) < 9223372036854775808 ∧
 ∃ (I0 : Nat → List Value → World → Prop) (m6 : Nat), I0 m6 [.int .i64 ((a3 : Int) - 1)] w ∧ ∀ (m7 : Nat) (ah : World) (a1 : Int), I0 m7 [.int .i64 a1] ah →
 (a1 > 0 →
 ∃ (ao : Option Addr) (ag ax : Nat), ah.cell? (a2.add 3) = some (.slice ao ag ax) ∧
 ∃ bh : Addr, ao = some bh ∧
 0 ≤ (a1 : Int) ∧ (a1 : Int) < (ag : Int) ∧
 ∃ (bd : Int), ah.cell? (bh.add (Int.toNat a1 * 1)) = some (.int .u64 bd) ∧
 (bd ≠ 0 →
 ∃ (al : Option Addr) (aj aw : Nat), ah.cell? (a2.add 3) = some (.slice al aj aw) ∧
 (-9223372036854775808 : Int) ≤ (a1 - 1) ∧ (a1 - 1) < 9223372036854775808 ∧
 ∃ bo : Addr, al = some bo ∧
 0 ≤ ((a1 - 1) : Int) ∧ ((a1 - 1) : Int) < (aj : Int) ∧
 ∃ (b7 : Int), ah.cell? (bo.add (Int.toNat (a1 - 1) * 1)) = some (.int .u64 b7) ∧
 (b7 = 0 →
 ∃ (b9 : Option Addr), ah.cell? (a2.add 0) = some (.pointer b9) ∧
 ∃ (a7 : Option Addr) (a5 ak : Nat), ah.cell? (a2.add 3) = some (.slice a7 a5 ak) ∧
 ∃ bf : Addr, a7 = some bf ∧
 0 ≤ (a1 : Int) ∧ (a1 : Int) < (a5 : Int) ∧
 ∃ (bb : Int), ah.cell? (bf.add (Int.toNat a1 * 1)) = some (.int .u64 bb) ∧
 ∃ (a6 : Option Addr) (a8 am : Nat), ah.cell? (a2.add 4) = some (.slice a6 a8 am) ∧
 ∃ bc : Addr, a6 = some bc ∧
 0 ≤ (a1 : Int) ∧ (a1 : Int) < (a8 : Int) ∧
 ∃ (b1 : Option Addr) (ay b2 : Nat), ah.cell? (bc.add (Int.toNat a1 * 1)) = some (.slice b1 ay b2) ∧
 ∀ (b5 : World), Ext no ah b5 →
 Calls Try.prog 32 #[.int .i64 a1] b5 fun b8 ap => ∃ (ab : Option Addr) (a9 ac : Nat), b8 = .returned (.slice ab a9 ac) ∧
 ap.cell? (bc.add (Int.toNat a1 * 1)) = some (.slice b1 ay b2) ∧
 ap.cell? (a2.add 4) = some (.slice a6 a8 am) ∧
 ap.cell? (bf.add (Int.toNat a1 * 1)) = some (.int .u64 bb) ∧
 ap.cell? (a2.add 3) = some (.slice a7 a5 ak) ∧
 ap.cell? (a2.add 0) = some (.pointer b9) ∧
 Calls Try.prog 69 #[.pointer b9, .int .u64 bb, .slice ab a9 ac, .slice b1 ay b2] ap fun ba az => ∃ (aa : Option Addr) (a0 aq : Nat) (a4 : Int), ba = .returned (.tuple #[.slice aa a0 aq, .int .i64 a4]) ∧
 (a4 ≠ 0 →
 R (.tuple #[]) az) ∧
 (a4 = 0 →
 ((a0 : Int) ≠ 8 →
 R (.tuple #[]) az) ∧
 ((a0 : Int) = 8 →
 ∃ (I2 : Nat → List Value → World → Prop) (bp : Nat), I2 bp [.int .i64 0] az ∧ ∀ (bk : Nat) (ad : World) (av : Int), I2 bk [.int .i64 av] ad →
 (av < (a0 : Int) →
 ∃ bl : Addr, aa = some bl ∧
 0 ≤ (av : Int) ∧ (av : Int) < (a0 : Int) ∧
 ∃ (bg : Int), ad.cell? (bl.add (Int.toNat av * 1)) = some (.int .u8 bg) ∧
 ∃ (an : Option Addr) (af ar : Nat), ad.cell? (a2.add 3) = some (.slice an af ar) ∧
 (-9223372036854775808 : Int) ≤ (a1 - 1) ∧ (a1 - 1) < 9223372036854775808 ∧
 ∃ (ae : Option Addr) (ai au : Nat), ad.cell? (a2.add 3) = some (.slice ae ai au) ∧
 (-9223372036854775808 : Int) ≤ (a1 - 1) ∧ (a1 - 1) < 9223372036854775808 ∧
 ∃ bn : Addr, ae = some bn ∧
 0 ≤ ((a1 - 1) : Int) ∧ ((a1 - 1) : Int) < (ai : Int) ∧
 ∃ (bm : Int), ad.cell? (bn.add (Int.toNat (a1 - 1) * 1)) = some (.int .u64 bm) ∧
 ∃ b6 : Addr, an = some b6 ∧
 0 ≤ ((a1 - 1) : Int) ∧ ((a1 - 1) : Int) < (af : Int) ∧
 ∀ (b3 : World), Ext no ad b3 →
 Q07 b3 ((b6.add (Int.toNat (a1 - 1) * 1)).add 0) ∧
 thenW (b3.setCell ((b6.add (Int.toNat (a1 - 1) * 1)).add 0) (.int .u64 (IntKind.u64.wrap ((BitVec.ofInt (IntKind.bits .u64) (IntKind.u64.wrap (bm * 256)) ||| BitVec.ofInt (IntKind.bits .u64) (IntKind.u64.wrap bg)).toNat)))) fun be =>
 (-9223372036854775808 : Int) ≤ (av + 1) ∧ (av + 1) < 9223372036854775808 ∧
 ∃ bi, bi < bk ∧ I2 bi [.int .i64 (av + 1)] be) ∧
 ((a0 : Int) ≤ av →
 (-9223372036854775808 : Int) ≤ (a1 - 1) ∧ (a1 - 1) < 9223372036854775808 ∧
 ∃ bj, bj < m7 ∧ I0 bj [.int .i64 (a1 - 1)] ad)))) ∧
 (b7 ≠ 0 →
 R (.tuple #[]) ah)) ∧
 (bd = 0 →
 R (.tuple #[]) ah)) ∧
 (a1 ≤ 0 →
 R (.tuple #[]) ah)

theorem Q0V.up (r1 : Option Addr) {R : RW} {w : World} (h : Q0V.N r1 R w) : Q0V.M r1 R w := by
  unfold Q0V.M
  unfold Q0V.N at h
  obtain ⟨a2, ay, h⟩ := h
  refine Q03 ay ?_
  obtain ⟨b1, az, b0, ci, h⟩ := h
  refine ⟨b1, az, b0, ci, ?_⟩
  obtain ⟨aa, a9, h⟩ := h
  try rw [w64 aa a9]
  obtain ⟨I0, m6, h0, h⟩ := h
  refine ⟨I0, m6, h0, fun m7 c3 ck hI => ?_⟩
  have h := h m7 c3 ck hI
  refine bif_fo (fun c9 => ?_) (fun c9 => ?_)
  ·have h := h.2 (Int.not_lt.1 (of_decide_eq_false c9))
   exact h
  have h := h.1 (of_decide_eq_true c9)
  refine Q03 ay ?_
  obtain ⟨ax, ac, aw, bw, h⟩ := h
  refine ⟨ax, ac, aw, bw, ?_⟩
  obtain ⟨cv, bq, h⟩ := h
  refine Q03 bq ?_
  obtain ⟨a1, a3, h⟩ := h
  refine ⟨a1, a3, ?_⟩
  obtain ⟨ch, bp, h⟩ := h
  refine ⟨ch, bp, ?_⟩
  refine bif_fo (fun bl => ?_) (fun bl => ?_)
  ·have h := h.2 (bne_f bl)
   exact h
  have h := h.1 (bne_t bl)
  refine Q03 ay ?_
  obtain ⟨ae, ag, au, bb, h⟩ := h
  refine ⟨ae, ag, au, bb, ?_⟩
  obtain ⟨aa, a9, h⟩ := h
  try rw [w64 aa a9]
  obtain ⟨cs, bf, h⟩ := h
  refine Q03 bf ?_
  obtain ⟨a1, a3, h⟩ := h
  refine ⟨a1, a3, ?_⟩
  obtain ⟨cd, b3, h⟩ := h
  refine ⟨cd, b3, ?_⟩
  refine bif_fo (fun bt => ?_) (fun bt => ?_)
  ·have h := h.2 (beq_f bt)
   exact h
  have h := h.1 (beq_t bt)
  unfold Q0V.J1
  refine Q01 fun bi ca => ?_
  have a0 := (Ext.refl no c3).x_drew ca
  refine Q03 ay ?_
  obtain ⟨c7, be, h⟩ := h
  refine ⟨c7, (a0).cell be id, ?_⟩
  refine Q03 ay ?_
  obtain ⟨aq, ao, ah, b9, h⟩ := h
  refine ⟨aq, ao, ah, (a0).cell b9 id, ?_⟩
  obtain ⟨cw, bs, h⟩ := h
  refine Q03 bs ?_
  obtain ⟨a1, a3, h⟩ := h
  refine ⟨a1, a3, ?_⟩
  obtain ⟨c5, b6, h⟩ := h
  refine ⟨c5, (a0).cell b6 id, ?_⟩
  refine Q03 ay ?_
  obtain ⟨al, an, ar, bk, h⟩ := h
  refine ⟨al, an, ar, (a0).cell bk id, ?_⟩
  obtain ⟨cq, c1, h⟩ := h
  refine Q03 c1 ?_
  obtain ⟨a1, a3, h⟩ := h
  refine ⟨a1, a3, ?_⟩
  obtain ⟨b5, br, bn, bh, h⟩ := h
  refine ⟨b5, br, bn, (a0).cell bh id, ?_⟩
  have h := h bi a0
  refine h.mono fun ce co h => ?_
  obtain ⟨a4, a7, a5, he, h⟩ := h
  refine ⟨a4, a7, a5, he, ?_⟩
  obtain ⟨bo, bj, bc, bm, bu, h⟩ := h
  refine ⟨bo, bj, bc, bm, bu, ?_⟩
  refine h.mono fun cg cf h => ?_
  obtain ⟨a8, a6, ab, ak, he, h⟩ := h
  refine ⟨a8, a6, ab, ak, he, ?_⟩
  refine bif_of (fun bz => ?_) (fun bz => ?_)
  ·have h := h.1 (bne_t bz)
   exact h
  have h := h.2 (bne_f bz)
  refine bif_of (fun ba => ?_) (fun ba => ?_)
  ·have h := h.1 (bne_t ba)
   exact h
  have h := h.2 (bne_f ba)
  obtain ⟨I2, cm, h0, h⟩ := h
  refine ⟨I2, cm, h0, fun c4 b2 c6 hI => ?_⟩
  have h := h c4 b2 c6 hI
  refine bif_fo (fun c0 => ?_) (fun c0 => ?_)
  ·have h := h.2 (Int.not_lt.1 (of_decide_eq_false c0))
   obtain ⟨aa, a9, h⟩ := h
   try rw [w64 aa a9]
   obtain ⟨cb, hk, h⟩ := h
   exact ⟨cb, hk, h⟩
  have h := h.1 (of_decide_eq_true c0)
  obtain ⟨cu, bg, h⟩ := h
  refine Q03 bg ?_
  obtain ⟨a1, a3, h⟩ := h
  refine ⟨a1, a3, ?_⟩
  obtain ⟨cj, c2, h⟩ := h
  refine ⟨cj, c2, ?_⟩
  refine Q01 fun b7 cp => ?_
  have ap := (Ext.refl no b2).x_drew cp
  refine Q03 ay ?_
  obtain ⟨av, af, ai, b4, h⟩ := h
  refine ⟨av, af, ai, (ap).cell b4 id, ?_⟩
  obtain ⟨aa, a9, h⟩ := h
  try rw [w64 aa a9]
  refine Q03 ay ?_
  obtain ⟨aj, ad, am, bx, h⟩ := h
  refine ⟨aj, ad, am, (ap).cell bx id, ?_⟩
  obtain ⟨aa, a9, h⟩ := h
  try rw [w64 aa a9]
  obtain ⟨cr, b8, h⟩ := h
  refine Q03 b8 ?_
  obtain ⟨a1, a3, h⟩ := h
  refine ⟨a1, a3, ?_⟩
  obtain ⟨cl, bd, h⟩ := h
  refine ⟨cl, (ap).cell bd id, ?_⟩
  refine ⟨by decide, ?_⟩
  try rw [show (2 ^ (min (Int.toNat 8) (IntKind.bits .u64)) : Int) = 256 from rfl]
  obtain ⟨ct, bv, h⟩ := h
  refine Q03 bv ?_
  obtain ⟨a1, a3, h⟩ := h
  refine ⟨a1, a3, ?_⟩
  have h := h b7 ap
  obtain ⟨hcs, h⟩ := h
  refine ⟨hcs, Q01 fun cc cn => ?_⟩
  replace h := Q0f h cn
  obtain ⟨aa, a9, h⟩ := h
  try rw [w64 aa a9]
  obtain ⟨c8, hk, h⟩ := h
  exact ⟨c8, hk, h⟩

theorem Q0V.go (r1 : Option Addr) {R : RW} {w : World} (h : Q0V.N r1 R w) : Calls Try.prog 41 #[.pointer r1] w fun e w' => ∃ v, e = .returned v ∧ R v w' := Q0V.ok r1 (Q0V.up r1 h)
def Q0G.M (a0 : Int) (a4 : Option Addr) (a6 a7 : Nat) (a5 : Addr) (R : RW) (w : World) : Prop :=
 thenW (w.alloc (.cells #[.int .i64 a0, .slice a4 a6 a7] 60)) fun a9 =>
 thenW (a9.drew) fun a3 =>
 ∃ (a1 : Int), a3.cell? ((blk w.heap.size).add 0) = some (.int .i64 a1) ∧
 ∃ (x7 : Option Addr), a3.cell? a5 = some (.pointer x7) ∧
 x7.elim False fun a8 =>
 ∃ (a2 : Int), a3.cell? (a8.add 1) = some (.int .i64 a2) ∧
 R (.bool (a1 == a2)) a3

theorem Q0G.ok (a0 : Int) (a3 : Option Addr) (a1 a4 : Nat) (a2 : Addr) {R : RW} {w : World} (h : Q0G.M a0 a3 a1 a4 a2 R w) : Calls Try.prog 38 #[.agg #[.int .i64 a0, .slice a3 a1 a4], .pointer (some a2)] w fun e w' => ∃ v, e = .returned v ∧ R v w' :=
  Q0l follows (H := []) (args := [.agg #[.int .i64 a0, .slice a3 a1 a4], .pointer (some a2)]) (cast (by kernel_rfl) h)

def Q0G.N (a1 : Int) (a4 : Option Addr) (a5 a6 : Nat) (a2 : Addr) (R : RW) (w : World) : Prop :=
 ∃ (x7 : Option Addr), w.cell? a2 = some (.pointer x7) ∧
 ∃ a8 : Addr, x7 = some a8 ∧
 ∃ (a0 : Int), w.cell? (a8.add 1) = some (.int .i64 a0) ∧
 ∀ (a3 : World), Ext no w a3 →
 R (.bool (a1 == a0)) a3

theorem Q0G.up (a0 : Int) (a4 : Option Addr) (a2 a5 : Nat) (a3 : Addr) {R : RW} {w : World} (h : Q0G.N a0 a4 a2 a5 a3 R w) : Q0G.M a0 a4 a2 a5 a3 R w := by
  unfold Q0G.M
  unfold Q0G.N at h
  refine Q01 fun ae e4 => ?_
  have a6 := Blk.of_new e4
  have af := ((Ext.refl no w)).size
  have ad := (Ext.refl no w).x_alloc e4
  refine Q01 fun ac e5 => ?_
  have a7 := ad.x_drew e5
  have a6 := a6.x_drew e5
  refine ⟨a0, a6.celli 0 rfl rfl, ?_⟩
  obtain ⟨x7, a9, h⟩ := h
  refine ⟨x7, (a7).cell a9 id, ?_⟩
  obtain ⟨a8, ab, h⟩ := h
  refine Q03 ab ?_
  obtain ⟨a1, aa, h⟩ := h
  refine ⟨a1, (a7).cell aa id, ?_⟩
  have h := h ac a7
  exact h

theorem Q0G.go (a0 : Int) (a3 : Option Addr) (a1 a4 : Nat) (a2 : Addr) {R : RW} {w : World} (h : Q0G.N a0 a3 a1 a4 a2 R w) : Calls Try.prog 38 #[.agg #[.int .i64 a0, .slice a3 a1 a4], .pointer (some a2)] w fun e w' => ∃ v, e = .returned v ∧ R v w' := Q0G.ok a0 a3 a1 a4 a2 (Q0G.up a0 a3 a1 a4 a2 h)
theorem Q0G.run (a0 : Int) (a3 : Option Addr) (a1 a4 : Nat) (a2 : Addr) {V : Value} {Q : World → Prop} {w : World} (h : Q0G.N a0 a3 a1 a4 a2 (fun v w' => v = V ∧ Q w') w) : Calls Try.prog 38 #[.agg #[.int .i64 a0, .slice a3 a1 a4], .pointer (some a2)] w (Ret V Q) := (Q0G.go a0 a3 a1 a4 a2 h).mono fun e w' ⟨v, he, hv, hq⟩ => ⟨by rw [he, hv], hq⟩

def Q08.M (ag : Option Addr) (ae ah aa : Nat) (af ab : Array Value) (R : RW) (w : World) : Prop :=
 ∃ (I0 : Nat → List Value → World → Prop) (m4 : Nat), I0 m4 [.int .i64 0] w ∧ ∀ (m5 : Nat) (a8 : World) (t3 : Int), I0 m5 [.int .i64 t3] a8 →
 bif decide (t3 < (ae : Int)) then (
 ag.elim False fun a7 =>
 0 ≤ (t3 : Int) ∧ (t3 : Int) < (ae : Int) ∧
 ∃ (a0 : Int) (a2 : Option Addr) (a4 a1 : Nat), cellsAt a8 (a7.add (Int.toNat t3 * 2)) [.int .i64 a0, .slice a2 a4 a1] 0 ∧
 bif enters Try.prog aa then Calls Try.prog aa (af.toList ++ ([.agg #[.int .i64 a0, .slice a2 a4 a1]] : List Value) ++ ab.toList).toArray a8 (fun a9 a6 => ∃ (a5 : Bool), a9 = .returned (.bool a5) ∧
 bif a5 then (
 R (.int .i64 t3) a6) else (
 ∃ ac, ac < m5 ∧ I0 ac [.int .i64 (IntKind.i64.wrap (t3 + 1))] a6)) else (∃ (a5 : Bool) (a3 : World), (Q1f aa (af.toList ++ ([.agg #[.int .i64 a0, .slice a2 a4 a1]] : List Value) ++ ab.toList).toArray).run Try.prog a8 = .ok (.bool a5) a3 ∧
 bif a5 then (
 R (.int .i64 t3) a3) else (
 ∃ ad, ad < m5 ∧ I0 ad [.int .i64 (IntKind.i64.wrap (t3 + 1))] a3))) else (
 R (.int .i64 (-1)) a8)

theorem Q08.ok (a1 : Option Addr) (a5 a3 a2 : Nat) (a4 a0 : Array Value) {R : RW} {w : World} (h : Q08.M a1 a5 a3 a2 a4 a0 R w) : Calls Try.prog 39 #[.slice a1 a5 a3, .func (.func a2) a4 a0] w fun e w' => ∃ v, e = .returned v ∧ R v w' :=
  Q0l follows (H := [(0, [0, 1, 7], [(8, (.one (.int .i64)))])]) (args := [.slice a1 a5 a3, .func (.func a2) a4 a0]) (cast (by kernel_rfl) h)

def Q08.N (ae : Option Addr) (a7 af aa : Nat) (ad ac : Array Value) (R : RW) (w : World) : Prop :=
 ∃ (I0 : Nat → List Value → World → Prop) (m4 : Nat), I0 m4 [.int .i64 0] w ∧ ∀ (m5 : Nat) (a5 : World) (t3 : Int), I0 m5 [.int .i64 t3] a5 →
 (t3 < (a7 : Int) →
 ∃ a8 : Addr, ae = some a8 ∧
 0 ≤ (t3 : Int) ∧ (t3 : Int) < (a7 : Int) ∧
 ∃ (a0 : Int) (a3 : Option Addr) (a2 a1 : Nat), cellsAt a5 (a8.add (Int.toNat t3 * 2)) [.int .i64 a0, .slice a3 a2 a1] 0 ∧
 enters Try.prog aa = true ∧ Calls Try.prog aa (ad.toList ++ ([.agg #[.int .i64 a0, .slice a3 a2 a1]] : List Value) ++ ac.toList).toArray a5 (fun a9 a4 => ∃ (a6 : Bool), a9 = .returned (.bool a6) ∧
 (a6 = true →
 R (.int .i64 t3) a4) ∧
 (a6 = false →
 (-9223372036854775808 : Int) ≤ (t3 + 1) ∧ (t3 + 1) < 9223372036854775808 ∧
 ∃ ab, ab < m5 ∧ I0 ab [.int .i64 (t3 + 1)] a4))) ∧
 ((a7 : Int) ≤ t3 →
 R (.int .i64 (-1)) a5)

theorem Q08.up (a7 : Option Addr) (ab a9 a5 : Nat) (aa a6 : Array Value) {R : RW} {w : World} (h : Q08.N a7 ab a9 a5 aa a6 R w) : Q08.M a7 ab a9 a5 aa a6 R w := by
  unfold Q08.M
  unfold Q08.N at h
  obtain ⟨I0, m4, h0, h⟩ := h
  refine ⟨I0, m4, h0, fun m5 af t3 hI => ?_⟩
  have h := h m5 af t3 hI
  refine bif_fo (fun c7 => ?_) (fun c7 => ?_)
  ·have h := h.2 (Int.not_lt.1 (of_decide_eq_false c7))
   exact h
  have h := h.1 (of_decide_eq_true c7)
  obtain ⟨a8, ae, h⟩ := h
  refine Q03 ae ?_
  obtain ⟨ad, ak, h⟩ := h
  refine ⟨ad, ak, ?_⟩
  obtain ⟨a0, a3, a2, a1, aj, h⟩ := h
  refine ⟨a0, a3, a2, a1, aj, ?_⟩
  obtain ⟨hen, h⟩ := h
  refine bif_tt hen ?_
  refine h.mono fun ag ac h => ?_
  obtain ⟨ah, he, h⟩ := h
  refine ⟨ah, he, ?_⟩
  refine bif_of (fun a4 => ?_) (fun a4 => ?_)
  ·have h := h.1 a4
   exact h
  have h := h.2 a4
  obtain ⟨ai, al, h⟩ := h
  try rw [w64 ai al]
  obtain ⟨am, hk, h⟩ := h
  exact ⟨am, hk, h⟩

theorem Q08.go (a1 : Option Addr) (a5 a3 a2 : Nat) (a4 a0 : Array Value) {R : RW} {w : World} (h : Q08.N a1 a5 a3 a2 a4 a0 R w) : Calls Try.prog 39 #[.slice a1 a5 a3, .func (.func a2) a4 a0] w fun e w' => ∃ v, e = .returned v ∧ R v w' := Q08.ok a1 a5 a3 a2 a4 a0 (Q08.up a1 a5 a3 a2 a4 a0 h)
theorem Q08.run (a1 : Option Addr) (a5 a3 a2 : Nat) (a4 a0 : Array Value) {V : Value} {Q : World → Prop} {w : World} (h : Q08.N a1 a5 a3 a2 a4 a0 (fun v w' => v = V ∧ Q w') w) : Calls Try.prog 39 #[.slice a1 a5 a3, .func (.func a2) a4 a0] w (Ret V Q) := (Q08.go a1 a5 a3 a2 a4 a0 h).mono fun e w' ⟨v, he, hv, hq⟩ => ⟨by rw [he, hv], hq⟩

abbrev Q0m.J1 (au : Int) (ar a6 : Addr) (R : RW) (ao : World) : Prop :=
 thenW (ao.drew) fun a8 =>
 ∃ (ae : Option Addr), a8.cell? a6 = some (.pointer ae) ∧
 ∃ (af : Option Addr), a8.cell? a6 = some (.pointer af) ∧
 af.elim False fun ak =>
 ∃ (a0 : Option Addr) (a2 a1 : Nat), a8.cell? (ak.add 4) = some (.slice a0 a2 a1) ∧
 ∃ (a9 : Option Addr) (ad ac : Nat), a8.cell? (ar.add 5) = some (.slice a9 ad ac) ∧
 Calls Try.prog 40 #[.slice a9 ad ac] a8 fun ap a7 => ∃ (a4 : Option Addr) (a5 a3 : Nat), ap = .returned (.slice a4 a5 a3) ∧
 a7.cell? (ak.add 4) = some (.slice a0 a2 a1) ∧
 a7.cell? a6 = some (.pointer af) ∧
 a7.cell? a6 = some (.pointer ae) ∧
 thenW (a7.alloc (.cells #[.slice a4 a5 a3] 29)) fun aa =>
 aa.cell? (ak.add 4) = some (.slice a0 a2 a1) ∧
 aa.cell? a6 = some (.pointer af) ∧
 aa.cell? a6 = some (.pointer ae) ∧
 ∃ (ai : Option Addr) (aj ag : Nat) (ab : World), (Builtin.append_ #[83, 83] 83 #[.slice a0 a2 a1, .slice (some (blk a7.heap.size)) 1 1]).run Try.prog aa = .ok (.slice ai aj ag) ab ∧
 ab.cell? a6 = some (.pointer ae) ∧
 ae.elim False fun am =>
 Q07 ab ((am.add 4).add 0) ∧
 thenW (ab.setCell ((am.add 4).add 0) (.slice ai aj ag)) fun ah =>
 ∃ (al : Option Addr), ah.cell? a6 = some (.pointer al) ∧
 Calls Try.prog 41 #[.pointer al] ah fun an aq => an = .returned (.tuple #[]) ∧
 R (.int .i64 au) aq

abbrev Q0m.J2 (ai ah : Int) (ag a6 : Addr) (R : RW) (ad : World) : Prop :=
 thenW (ad.drew) fun a3 =>
 ∃ (a7 : Option Addr), a3.cell? a6 = some (.pointer a7) ∧
 ∃ (ab : Option Addr), a3.cell? a6 = some (.pointer ab) ∧
 ab.elim False fun af =>
 ∃ (a1 : Option Addr) (a0 a2 : Nat), a3.cell? (af.add 3) = some (.slice a1 a0 a2) ∧
 thenW (a3.alloc (.cells #[.int .u64 ah] 27)) fun a4 =>
 a4.cell? (af.add 3) = some (.slice a1 a0 a2) ∧
 a4.cell? a6 = some (.pointer ab) ∧
 a4.cell? a6 = some (.pointer a7) ∧
 ∃ (a9 : Option Addr) (a8 aa : Nat) (a5 : World), (Builtin.append_ #[22, 22] 22 #[.slice a1 a0 a2, .slice (some (blk a3.heap.size)) 1 1]).run Try.prog a4 = .ok (.slice a9 a8 aa) a5 ∧
 a5.cell? a6 = some (.pointer a7) ∧
 a7.elim False fun ac =>
 Q07 a5 ((ac.add 3).add 0) ∧
 thenW (a5.setCell ((ac.add 3).add 0) (.slice a9 a8 aa)) fun ae =>
 Q0m.J1 ai ag a6 R ae

abbrev Q0m.J3 (ah af : Addr) (R : RW) (ag : World) : Prop :=
 ∃ (a1 : Option Addr) (a3 a4 : Nat), ag.cell? (ah.add 4) = some (.slice a1 a3 a4) ∧
 Calls Try.prog 39 #[.slice a1 a3 a4, .func (.func 38) #[] #[.pointer (some af)]] ag fun ai ac => ∃ (a0 : Int), ai = .returned (.int .i64 a0) ∧
 bif decide (a0 ≥ 0) then (
 thenW (ac.drew) fun a9 =>
 ∃ (an : Option Addr), a9.cell? af = some (.pointer an) ∧
 an.elim False fun ap =>
 ∃ (al : Option Addr), a9.cell? (ap.add 0) = some (.pointer al) ∧
 ∃ (am : Option Addr), a9.cell? af = some (.pointer am) ∧
 am.elim False fun ao =>
 ∃ (a2 : Int), a9.cell? (ao.add 2) = some (.int .u64 a2) ∧
 ∃ (a7 : Option Addr) (a5 aa : Nat), a9.cell? (ah.add 4) = some (.slice a7 a5 aa) ∧
 a7.elim False fun aq =>
 0 ≤ (a0 : Int) ∧ (a0 : Int) < (a5 : Int) ∧
 ∃ (ab : Option Addr) (ae ad : Nat), a9.cell? ((aq.add (Int.toNat a0 * 2)).add 1) = some (.slice ab ae ad) ∧
 Calls Try.prog 12 #[.pointer al, .int .u64 a2, .slice ab ae ad] a9 fun aj ak => ∃ (a8 a6 : Int), aj = .returned (.tuple #[.int .u64 a8, .int .i64 a6]) ∧
 Q0m.J2 a6 a8 ah af R ak) else (
 Q0m.J2 11 0 ah af R ac)

def Q0m.M (r1 : Option Addr) (an aq ah ai : Int) (ad : Option Addr) (ae ab : Nat) (am : Option Addr) (ao al : Nat) (R : RW) (w : World) : Prop :=
 thenW (w.alloc (.cells #[.pointer r1] 34)) fun ar =>
 thenW (ar.alloc (.cells #[.int .i64 an, .int .i64 aq, .int .u64 ah, .int .i64 ai, .slice ad ae ab, .slice am ao al] 52)) fun ap =>
 ∃ (av : Option Addr), ap.cell? (blk w.heap.size) = some (.pointer av) ∧
 bif Option.isNone av then (
 R (.int .i64 23) ap) else (
 ∃ (ac : Int), ap.cell? ((blk ar.heap.size).add 0) = some (.int .i64 ac) ∧
 bif ac != 3 then (
 R (.int .i64 1) ap) else (
 ∃ (a6 af a2 a4 : Int) (a0 : Option Addr) (a1 a3 : Nat) (aa : Option Addr) (a8 a9 : Nat), cellsAt ap (blk ar.heap.size) [.int .i64 a6, .int .i64 af, .int .u64 a2, .int .i64 a4, .slice a0 a1 a3, .slice aa a8 a9] 0 ∧
 Calls Try.prog 34 #[.agg #[.int .i64 a6, .int .i64 af, .int .u64 a2, .int .i64 a4, .slice a0 a1 a3, .slice aa a8 a9]] ap fun au ag => ∃ (a7 : Bool), au = .returned (.bool a7) ∧
 bif !a7 then (
 R (.int .i64 1) ag) else (
 ∃ (aw : Option Addr), ag.cell? (blk w.heap.size) = some (.pointer aw) ∧
 aw.elim False fun ax =>
 ∃ (ak : Option Addr) (a5 aj : Nat), ag.cell? (ax.add 3) = some (.slice ak a5 aj) ∧
 bif decide ((a5 : Int) ≥ 20) then (
 R (.int .i64 3) ag) else (
 Q0m.J3 (blk ar.heap.size) (blk w.heap.size) R ag))))

theorem Q0m.ok (r1 : Option Addr) (a5 a9 a3 a4 : Int) (a2 : Option Addr) (a1 a0 : Nat) (a7 : Option Addr) (a8 a6 : Nat) {R : RW} {w : World} (h : Q0m.M r1 a5 a9 a3 a4 a2 a1 a0 a7 a8 a6 R w) : Calls Try.prog 11 #[.pointer r1, .agg #[.int .i64 a5, .int .i64 a9, .int .u64 a3, .int .i64 a4, .slice a2 a1 a0, .slice a7 a8 a6]] w fun e w' => ∃ v, e = .returned v ∧ R v w' :=
  Q0l follows (H := []) (args := [.pointer r1, .agg #[.int .i64 a5, .int .i64 a9, .int .u64 a3, .int .i64 a4, .slice a2 a1 a0, .slice a7 a8 a6]]) (cast (by kernel_rfl) h)

def Q0m.N (r1 : Option Addr) (b0 c5 bb be : Int) (ab : Option Addr) (ae av : Nat) (b3 : Option Addr) (b5 b4 : Nat) (R : RW) (w : World) : Prop :=
 ∀ (bo : World) (q9 : Nat), Ext no w bo → Blk bo q9 34 [.pointer r1] → w.heap.size ≤ q9 → q9 < bo.heap.size →
 ∃ (cq : Option Addr), bo.cell? (blk q9) = some (.pointer cq) ∧
 (cq = none →
 ∀ (af : World), Ext no bo af →
 R (.int .i64 23) af) ∧
 (cq ≠ none →
 (b0 ≠ 3 →
 ∀ (af : World), Ext no bo af →
 R (.int .i64 1) af) ∧
 (b0 = 3 →
 ∀ (af : World) (bw : Nat), Ext no bo af → Priv bo af [bw] →
 Calls Try.prog 34 #[.agg #[.int .i64 b0, .int .i64 c5, .int .u64 bb, .int .i64 be, .slice ab ae av, .slice b3 b5 b4]] af fun cy b1 => ∃ (al : Bool), cy = .returned (.bool al) ∧
 Keep [bw] af b1 ∧
 (al = false →
 R (.int .i64 1) b1) ∧
 (al = true →
 ∃ (d7 : Option Addr), b1.cell? (blk q9) = some (.pointer d7) ∧
 ∃ d0 : Addr, d7 = some d0 ∧
 ∃ (bm : Option Addr) (an bg : Nat), b1.cell? (d0.add 3) = some (.slice bm an bg) ∧
 ((an : Int) ≥ 20 →
 R (.int .i64 3) b1) ∧
 ((an : Int) < 20 →
 Calls Try.prog 39 #[.slice ab ae av, .func (.func 38) #[] #[.pointer (some (blk q9))]] b1 fun ct a5 => ∃ (a0 : Int), ct = .returned (.int .i64 a0) ∧
 Keep [bw] b1 a5 ∧
 (a0 ≥ 0 →
 ∃ (d3 : Option Addr), a5.cell? (blk q9) = some (.pointer d3) ∧
 ∃ d8 : Addr, d3 = some d8 ∧
 ∃ (d2 : Option Addr), a5.cell? (d8.add 0) = some (.pointer d2) ∧
 ∃ (d6 : Option Addr), a5.cell? (blk q9) = some (.pointer d6) ∧
 ∃ d5 : Addr, d6 = some d5 ∧
 ∃ (ar : Int), a5.cell? (d5.add 2) = some (.int .u64 ar) ∧
 ∃ d4 : Addr, ab = some d4 ∧
 0 ≤ (a0 : Int) ∧ (a0 : Int) < (ae : Int) ∧
 ∃ (c8 : Option Addr) (cf cg : Nat), a5.cell? ((d4.add (Int.toNat a0 * 2)).add 1) = some (.slice c8 cf cg) ∧
 ∀ (c1 : World), Ext no a5 c1 →
 Calls Try.prog 12 #[.pointer d2, .int .u64 ar, .slice c8 cf cg] c1 fun cs b8 => ∃ (ax ap : Int), cs = .returned (.tuple #[.int .u64 ax, .int .i64 ap]) ∧
 Keep [bw] c1 b8 ∧
 ∃ (cn : Option Addr), b8.cell? (blk q9) = some (.pointer cn) ∧
 ∃ (cz : Option Addr), b8.cell? (blk q9) = some (.pointer cz) ∧
 ∃ cr : Addr, cz = some cr ∧
 ∃ (ak : Option Addr) (aj am : Nat), b8.cell? (cr.add 3) = some (.slice ak aj am) ∧
 ∀ (aq : World) (cp : Nat), Ext no b8 aq → Blk aq cp 27 [.int .u64 ax] → b8.heap.size ≤ cp → cp < aq.heap.size →
 aq.cell? (cr.add 3) = some (.slice ak aj am) ∧
 aq.cell? (blk q9) = some (.pointer cz) ∧
 aq.cell? (blk q9) = some (.pointer cn) ∧
 ∃ (c3 : Option Addr) (cd c4 : Nat) (bc : World), (Builtin.append_ #[22, 22] 22 #[.slice ak aj am, .slice (some (blk cp)) 1 1]).run Try.prog aq = .ok (.slice c3 cd c4) bc ∧
 Keep [bw] aq bc ∧
 bc.cell? (blk q9) = some (.pointer cn) ∧
 ∃ cj : Addr, cn = some cj ∧
 Q07 bc ((cj.add 3).add 0) ∧
 (∀ p ∈ [bw], p ≠ Addr.block (cj.add 3)) ∧
 thenW (bc.setCell ((cj.add 3).add 0) (.slice c3 cd c4)) fun bi =>
 ∃ (ca : Option Addr), bi.cell? (blk q9) = some (.pointer ca) ∧
 ∃ (cm : Option Addr), bi.cell? (blk q9) = some (.pointer cm) ∧
 ∃ cl : Addr, cm = some cl ∧
 ∃ (a8 : Option Addr) (a6 a7 : Nat), bi.cell? (cl.add 4) = some (.slice a8 a6 a7) ∧
 ∀ (c2 : World), Ext no bi c2 →
 Calls Try.prog 40 #[.slice b3 b5 b4] c2 fun cw ba => ∃ (az : Option Addr) (aw au : Nat), cw = .returned (.slice az aw au) ∧
 ba.cell? (cl.add 4) = some (.slice a8 a6 a7) ∧
 ba.cell? (blk q9) = some (.pointer cm) ∧
 ba.cell? (blk q9) = some (.pointer ca) ∧
 ∀ (b2 : World) (ck : Nat), Ext no ba b2 → Blk b2 ck 29 [.slice az aw au] → ba.heap.size ≤ ck → ck < b2.heap.size →
 b2.cell? (cl.add 4) = some (.slice a8 a6 a7) ∧
 b2.cell? (blk q9) = some (.pointer cm) ∧
 b2.cell? (blk q9) = some (.pointer ca) ∧
 ∃ (cb : Option Addr) (ci c6 : Nat) (bd : World), (Builtin.append_ #[83, 83] 83 #[.slice a8 a6 a7, .slice (some (blk ck)) 1 1]).run Try.prog b2 = .ok (.slice cb ci c6) bd ∧
 bd.cell? (blk q9) = some (.pointer ca) ∧
 ∃ cx : Addr, ca = some cx ∧
 Q07 bd ((cx.add 4).add 0) ∧
 thenW (bd.setCell ((cx.add 4).add 0) (.slice cb ci c6)) fun ce =>
 ∃ (d1 : Option Addr), ce.cell? (blk q9) = some (.pointer d1) ∧
 Calls Try.prog 41 #[.pointer d1] ce fun cv cu => cv = .returned (.tuple #[]) ∧
 R (.int .i64 ap) cu) ∧
 (a0 < 0 →
 ∃ (co : Option Addr), a5.cell? (blk q9) = some (.pointer co) ∧
 ∃ (bz : Option Addr), a5.cell? (blk q9) = some (.pointer bz) ∧
 ∃ bx : Addr, bz = some bx ∧
 ∃ (ad : Option Addr) (aa a9 : Nat), a5.cell? (bx.add 3) = some (.slice ad aa a9) ∧
 ∀ (a4 : World) (bk : Nat), Ext no a5 a4 → Blk a4 bk 27 [.int .u64 0] → a5.heap.size ≤ bk → bk < a4.heap.size →
 a4.cell? (bx.add 3) = some (.slice ad aa a9) ∧
 a4.cell? (blk q9) = some (.pointer bz) ∧
 a4.cell? (blk q9) = some (.pointer co) ∧
 ∃ (bt : Option Addr) (bv bs : Nat) (ay : World), (Builtin.append_ #[22, 22] 22 #[.slice ad aa a9, .slice (some (blk bk)) 1 1]).run Try.prog a4 = .ok (.slice bt bv bs) ay ∧
 Keep [bw] a4 ay ∧
 ay.cell? (blk q9) = some (.pointer co) ∧
 ∃ bh : Addr, co = some bh ∧
 Q07 ay ((bh.add 3).add 0) ∧
 (∀ p ∈ [bw], p ≠ Addr.block (bh.add 3)) ∧
 thenW (ay.setCell ((bh.add 3).add 0) (.slice bt bv bs)) fun b6 =>
 ∃ (b9 : Option Addr), b6.cell? (blk q9) = some (.pointer b9) ∧
 ∃ (bf : Option Addr), b6.cell? (blk q9) = some (.pointer bf) ∧
 ∃ bl : Addr, bf = some bl ∧
 ∃ (a1 : Option Addr) (a3 a2 : Nat), b6.cell? (bl.add 4) = some (.slice a1 a3 a2) ∧
 ∀ (bp : World), Ext no b6 bp →
 Calls Try.prog 40 #[.slice b3 b5 b4] bp fun c9 ao => ∃ (ai : Option Addr) (ah ag : Nat), c9 = .returned (.slice ai ah ag) ∧
 ao.cell? (bl.add 4) = some (.slice a1 a3 a2) ∧
 ao.cell? (blk q9) = some (.pointer bf) ∧
 ao.cell? (blk q9) = some (.pointer b9) ∧
 ∀ (ac : World) (bj : Nat), Ext no ao ac → Blk ac bj 29 [.slice ai ah ag] → ao.heap.size ≤ bj → bj < ac.heap.size →
 ac.cell? (bl.add 4) = some (.slice a1 a3 a2) ∧
 ac.cell? (blk q9) = some (.pointer bf) ∧
 ac.cell? (blk q9) = some (.pointer b9) ∧
 ∃ (bu : Option Addr) (bq br : Nat) (b7 : World), (Builtin.append_ #[83, 83] 83 #[.slice a1 a3 a2, .slice (some (blk bj)) 1 1]).run Try.prog ac = .ok (.slice bu bq br) b7 ∧
 b7.cell? (blk q9) = some (.pointer b9) ∧
 ∃ c0 : Addr, b9 = some c0 ∧
 Q07 b7 ((c0.add 4).add 0) ∧
 thenW (b7.setCell ((c0.add 4).add 0) (.slice bu bq br)) fun bn =>
 ∃ (cc : Option Addr), bn.cell? (blk q9) = some (.pointer cc) ∧
 Calls Try.prog 41 #[.pointer cc] bn fun c7 ch => c7 = .returned (.tuple #[]) ∧
 R (.int .i64 11) ch)))))

theorem Q0m.up (r1 : Option Addr) (a8 ak a5 a9 : Int) (a2 : Option Addr) (a3 a1 : Nat) (a4 : Option Addr) (a7 a6 : Nat) {R : RW} {w : World} (h : Q0m.N r1 a8 ak a5 a9 a2 a3 a1 a4 a7 a6 R w) : Q0m.M r1 a8 ak a5 a9 a2 a3 a1 a4 a7 a6 R w := by
  unfold Q0m.M
  unfold Q0m.N at h
  refine Q01 fun cf e8 => ?_
  have h := h cf w.heap.size ((Ext.refl no w).x_alloc e8) (Blk.of_new e8) ((Ext.refl no w)).size (Q0w e8)
  refine Q01 fun bb eg => ?_
  have a0 := Blk.of_new eg
  have f5 := ((Ext.refl no cf)).size
  have b9 := (Ext.refl no cf).x_alloc eg
  obtain ⟨en, cm, h⟩ := h
  refine ⟨en, (b9).cell cm id, ?_⟩
  refine bif_of (fun db => ?_) (fun db => ?_)
  ·have h := h.1 (Q1z db)
   have h := h bb b9
   exact h
  have h := h.2 (Q1A db)
  refine ⟨a8, a0.celli 0 rfl rfl, ?_⟩
  refine bif_of (fun de => ?_) (fun de => ?_)
  ·have h := h.1 (bne_t de)
   have h := h bb b9
   exact h
  have h := h.2 (bne_f de)
  refine ⟨a8, ak, a5, a9, a2, a3, a1, a4, a7, a6, ⟨a0.celli 0 rfl rfl, a0.celli 1 rfl rfl, a0.celli 2 rfl rfl, a0.celli 3 rfl rfl, a0.celli 4 rfl rfl, a0.celli 5 rfl rfl, trivial⟩, ?_⟩
  have h := h bb (cf.heap.size) b9 (Priv.cons f5 a0.lt Priv.nil)
  refine h.mono fun fa eq h => ?_
  obtain ⟨b2, he, hk, h⟩ := h
  refine ⟨b2, he, ?_⟩
  have a0 := hk.blk a0 (by simp)
  refine bif_of (fun dz => ?_) (fun dz => ?_)
  ·have h := h.1 (not_t dz)
   exact h
  have h := h.2 (not_f dz)
  obtain ⟨f9, dx, h⟩ := h
  refine ⟨f9, dx, ?_⟩
  obtain ⟨fd, di, h⟩ := h
  refine Q03 di ?_
  obtain ⟨b8, b7, b4, cs, h⟩ := h
  refine ⟨b8, b7, b4, cs, ?_⟩
  refine bif_of (fun dr => ?_) (fun dr => ?_)
  ·have h := h.1 (of_decide_eq_true dr)
   exact h
  have h := h.2 (Int.not_le.1 (of_decide_eq_false dr))
  unfold Q0m.J3
  refine ⟨a2, a3, a1, a0.celli 4 rfl rfl, ?_⟩
  refine h.mono fun er c2 h => ?_
  obtain ⟨aa, he, hk, h⟩ := h
  refine ⟨aa, he, ?_⟩
  have a0 := hk.blk a0 (by simp)
  refine bif_fo (fun d4 => ?_) (fun d4 => ?_)
  ·have h := h.2 (Int.not_le.1 (of_decide_eq_false d4))
   unfold Q0m.J2
   refine Q01 fun d9 ed => ?_
   have ap := (Ext.refl no c2).x_drew ed
   have a0 := a0.x_drew ed
   obtain ⟨f8, cl, h⟩ := h
   refine ⟨f8, (ap).cell cl id, ?_⟩
   obtain ⟨cv, e6, h⟩ := h
   refine ⟨cv, (ap).cell e6 id, ?_⟩
   obtain ⟨em, bz, h⟩ := h
   refine Q03 bz ?_
   obtain ⟨av, aj, ai, c5, h⟩ := h
   refine ⟨av, aj, ai, (ap).cell c5 id, ?_⟩
   refine Q01 fun c4 b3 => ?_
   have a0 := a0.x_alloc b3
   have h := h c4 d9.heap.size (ap.x_alloc b3) (Blk.of_new b3) (ap).size (Q0w b3)
   obtain ⟨bh, c9, bp, h⟩ := h
   refine ⟨bh, c9, bp, ?_⟩
   obtain ⟨bx, c7, bv, cd, hr, hk, h⟩ := h
   refine ⟨bx, c7, bv, cd, hr, ?_⟩
   have a0 := hk.blk a0 (by simp)
   obtain ⟨cc, h⟩ := h
   refine ⟨cc, ?_⟩
   obtain ⟨et, bk, h⟩ := h
   refine Q03 bk ?_
   obtain ⟨hcs, hof, h⟩ := h
   refine ⟨hcs, Q01 fun bi c1 => ?_⟩
   replace h := Q0f h c1
   have a0 := a0.off (by rw [Q0a]; exact hof _ (by simp)) c1
   unfold Q0m.J1
   refine Q01 fun bn bq => ?_
   have ab := (Ext.refl no bi).x_drew bq
   have a0 := a0.x_drew bq
   obtain ⟨d3, bl, h⟩ := h
   refine ⟨d3, (ab).cell bl id, ?_⟩
   obtain ⟨cp, bt, h⟩ := h
   refine ⟨cp, (ab).cell bt id, ?_⟩
   obtain ⟨f6, bg, h⟩ := h
   refine Q03 bg ?_
   obtain ⟨ag, aw, ah, c0, h⟩ := h
   refine ⟨ag, aw, ah, (ab).cell c0 id, ?_⟩
   refine ⟨a4, a7, a6, a0.celli 5 rfl rfl, ?_⟩
   have h := h bn ab
   refine h.mono fun ei al h => ?_
   obtain ⟨ae, ad, ac, he, h⟩ := h
   refine ⟨ae, ad, ac, he, ?_⟩
   obtain ⟨bo, bw, ca, h⟩ := h
   refine ⟨bo, bw, ca, ?_⟩
   refine Q01 fun c8 bc => ?_
   have h := h c8 al.heap.size ((Ext.refl no al).x_alloc bc) (Blk.of_new bc) ((Ext.refl no al)).size (Q0w bc)
   obtain ⟨bm, bu, bj, h⟩ := h
   refine ⟨bm, bu, bj, ?_⟩
   obtain ⟨c3, br, bs, c6, hr, h⟩ := h
   refine ⟨c3, br, bs, c6, hr, ?_⟩
   obtain ⟨cb, h⟩ := h
   refine ⟨cb, ?_⟩
   obtain ⟨f7, bf, h⟩ := h
   refine Q03 bf ?_
   obtain ⟨hcs, h⟩ := h
   refine ⟨hcs, Q01 fun ec cn => ?_⟩
   replace h := Q0f h cn
   obtain ⟨dk, be, h⟩ := h
   refine ⟨dk, be, ?_⟩
   refine h.mono fun eh el h => ?_
   obtain ⟨he, h⟩ := h
   refine ⟨he, ?_⟩
   exact h
  have h := h.1 (of_decide_eq_true d4)
  refine Q01 fun e0 ej => ?_
  have af := (Ext.refl no c2).x_drew ej
  have a0 := a0.x_drew ej
  obtain ⟨eu, d6, h⟩ := h
  refine ⟨eu, (af).cell d6 id, ?_⟩
  obtain ⟨fk, dh, h⟩ := h
  refine Q03 dh ?_
  obtain ⟨es, dd, h⟩ := h
  refine ⟨es, (af).cell dd id, ?_⟩
  obtain ⟨f4, e9, h⟩ := h
  refine ⟨f4, (af).cell e9 id, ?_⟩
  obtain ⟨fh, d0, h⟩ := h
  refine Q03 d0 ?_
  obtain ⟨an, dw, h⟩ := h
  refine ⟨an, (af).cell dw id, ?_⟩
  refine ⟨a2, a3, a1, a0.celli 4 rfl rfl, ?_⟩
  obtain ⟨fg, cg, h⟩ := h
  refine Q03 cg ?_
  obtain ⟨ey, fb, h⟩ := h
  refine ⟨ey, fb, ?_⟩
  obtain ⟨d8, dt, e4, dp, h⟩ := h
  refine ⟨d8, dt, e4, (af).cell dp id, ?_⟩
  have h := h e0 af
  refine h.mono fun ep df h => ?_
  obtain ⟨ar, am, he, hk, h⟩ := h
  refine ⟨ar, am, he, ?_⟩
  have a0 := hk.blk a0 (by simp)
  unfold Q0m.J2
  refine Q01 fun dc ee => ?_
  have au := (Ext.refl no df).x_drew ee
  have a0 := a0.x_drew ee
  obtain ⟨f3, dg, h⟩ := h
  refine ⟨f3, (au).cell dg id, ?_⟩
  obtain ⟨fc, dq, h⟩ := h
  refine ⟨fc, (au).cell dq id, ?_⟩
  obtain ⟨fe, ds, h⟩ := h
  refine Q03 ds ?_
  obtain ⟨az, ay, b6, cz, h⟩ := h
  refine ⟨az, ay, b6, (au).cell cz id, ?_⟩
  refine Q01 fun da ce => ?_
  have a0 := a0.x_alloc ce
  have h := h da dc.heap.size (au.x_alloc ce) (Blk.of_new ce) (au).size (Q0w ce)
  obtain ⟨ck, cj, d2, h⟩ := h
  refine ⟨ck, cj, d2, ?_⟩
  obtain ⟨ct, dm, cw, e7, hr, hk, h⟩ := h
  refine ⟨ct, dm, cw, e7, hr, ?_⟩
  have a0 := hk.blk a0 (by simp)
  obtain ⟨eb, h⟩ := h
  refine ⟨eb, ?_⟩
  obtain ⟨ff, dn, h⟩ := h
  refine Q03 dn ?_
  obtain ⟨hcs, hof, h⟩ := h
  refine ⟨hcs, Q01 fun d7 ek => ?_⟩
  replace h := Q0f h ek
  have a0 := a0.off (by rw [Q0a]; exact hof _ (by simp)) ek
  unfold Q0m.J1
  refine Q01 fun co ef => ?_
  have b1 := (Ext.refl no d7).x_drew ef
  have a0 := a0.x_drew ef
  obtain ⟨ez, cr, h⟩ := h
  refine ⟨ez, (b1).cell cr id, ?_⟩
  obtain ⟨f1, e2, h⟩ := h
  refine ⟨f1, (b1).cell e2 id, ?_⟩
  obtain ⟨fi, d5, h⟩ := h
  refine Q03 d5 ?_
  obtain ⟨ba, b0, b5, cx, h⟩ := h
  refine ⟨ba, b0, b5, (b1).cell cx id, ?_⟩
  refine ⟨a4, a7, a6, a0.celli 5 rfl rfl, ?_⟩
  have h := h co b1
  refine h.mono fun f0 bd h => ?_
  obtain ⟨ax, aq, ao, he, h⟩ := h
  refine ⟨ax, aq, ao, he, ?_⟩
  obtain ⟨du, dl, e5, h⟩ := h
  refine ⟨du, dl, e5, ?_⟩
  refine Q01 fun cu ch => ?_
  have h := h cu bd.heap.size ((Ext.refl no bd).x_alloc ch) (Blk.of_new ch) ((Ext.refl no bd)).size (Q0w ch)
  obtain ⟨dy, dv, e3, h⟩ := h
  refine ⟨dy, dv, e3, ?_⟩
  obtain ⟨dj, ea, d1, ci, hr, h⟩ := h
  refine ⟨dj, ea, d1, ci, hr, ?_⟩
  obtain ⟨cq, h⟩ := h
  refine ⟨cq, ?_⟩
  obtain ⟨fj, cy, h⟩ := h
  refine Q03 cy ?_
  obtain ⟨hcs, h⟩ := h
  refine ⟨hcs, Q01 fun f2 ex => ?_⟩
  replace h := Q0f h ex
  obtain ⟨eo, e1, h⟩ := h
  refine ⟨eo, e1, ?_⟩
  refine h.mono fun ew ev h => ?_
  obtain ⟨he, h⟩ := h
  refine ⟨he, ?_⟩
  exact h

theorem Q0m.go (r1 : Option Addr) (a5 a9 a3 a4 : Int) (a2 : Option Addr) (a1 a0 : Nat) (a7 : Option Addr) (a8 a6 : Nat) {R : RW} {w : World} (h : Q0m.N r1 a5 a9 a3 a4 a2 a1 a0 a7 a8 a6 R w) : Calls Try.prog 11 #[.pointer r1, .agg #[.int .i64 a5, .int .i64 a9, .int .u64 a3, .int .i64 a4, .slice a2 a1 a0, .slice a7 a8 a6]] w fun e w' => ∃ v, e = .returned v ∧ R v w' := Q0m.ok r1 a5 a9 a3 a4 a2 a1 a0 a7 a8 a6 (Q0m.up r1 a5 a9 a3 a4 a2 a1 a0 a7 a8 a6 h)
theorem Q0m.run (r1 : Option Addr) (a5 a9 a3 a4 : Int) (a2 : Option Addr) (a1 a0 : Nat) (a7 : Option Addr) (a8 a6 : Nat) {V : Value} {Q : World → Prop} {w : World} (h : Q0m.N r1 a5 a9 a3 a4 a2 a1 a0 a7 a8 a6 (fun v w' => v = V ∧ Q w') w) : Calls Try.prog 11 #[.pointer r1, .agg #[.int .i64 a5, .int .i64 a9, .int .u64 a3, .int .i64 a4, .slice a2 a1 a0, .slice a7 a8 a6]] w (Ret V Q) := (Q0m.go r1 a5 a9 a3 a4 a2 a1 a0 a7 a8 a6 h).mono fun e w' ⟨v, he, hv, hq⟩ => ⟨by rw [he, hv], hq⟩

abbrev Q0T.J1 (ah : Option Addr) (ag aj : Nat) (ai : Addr) (ac ad : Int) (I0 : Nat → List Value → World → Prop) (ae : Addr) (af : Nat) (R : RW) (a3 : World) : Prop :=
 ∃ (a2 : Option Addr) (a1 a0 : Nat), a3.cell? (ae.add 4) = some (.slice a2 a1 a0) ∧
 ∃ (a5 : Int), a3.cell? (ai.add 0) = some (.int .i64 a5) ∧
 thenW (a3.alloc (.cells #[.int .i64 a5, .slice ah ag aj] 60)) fun a9 =>
 ∃ (a6 : Option Addr) (a7 a8 : Nat) (a4 : World), (Builtin.append_ #[50, 50] 50 #[.slice a2 a1 a0, .slice (some (blk a3.heap.size)) 1 1]).run Try.prog a9 = .ok (.slice a6 a7 a8) a4 ∧
 Q07 a4 ((ae.add 4).add 0) ∧
 thenW (a4.setCell ((ae.add 4).add 0) (.slice a6 a7 a8)) fun ab =>
 ∃ aa, aa < af ∧ I0 aa [.int .u64 ac, .int .i64 (IntKind.i64.wrap (ad + 1))] ab

abbrev Q0T.J2 (aw aq : Int) (I0 : Nat → List Value → World → Prop) (av : Addr) (ay : Option Addr) (ax : Nat) (am : Option Addr) (al : Nat) (R : RW) (aj : World) : Prop :=
 am.elim False fun az =>
 0 ≤ (aq : Int) ∧ (aq : Int) < (al : Int) ∧
 ∃ (ai a5 af ak aa : Int), cellsAt aj (az.add (Int.toNat aq * 5)) [.int .i64 ai, .int .u64 a5, .int .i64 af, .int .i64 ak, .int .i64 aa] 0 ∧
 thenW (aj.alloc (.cells #[.int .i64 0, .int .u64 0, .int .i64 0, .int .i64 0, .int .i64 0] 70)) fun au =>
 putsK au (blk aj.heap.size) [.int .i64 ai, .int .u64 a5, .int .i64 af, .int .i64 ak, .int .i64 aa] 0 fun ap =>
 ∃ (ac : Int), ap.cell? ((blk aj.heap.size).add 1) = some (.int .u64 ac) ∧
 Calls Try.prog 30 #[.pointer ay, .int .u64 ac, .int .u64 aw] ap fun ar an => ∃ (ah : Option Addr) (ae ag : Nat) (ad : Int), ar = .returned (.tuple #[.slice ah ae ag, .int .i64 ad]) ∧
 bif ad != 0 then (
 putsK an av [.int .i64 0, .int .i64 0, .int .u64 0, .int .i64 0, .slice none 0 0, .slice none 0 0] 0 fun ao =>
 ∃ (a6 ab a1 a4 : Int) (a0 : Option Addr) (a3 a2 : Nat) (a7 : Option Addr) (a8 a9 : Nat), cellsAt ao av [.int .i64 a6, .int .i64 ab, .int .u64 a1, .int .i64 a4, .slice a0 a3 a2, .slice a7 a8 a9] 0 ∧
 R (.tuple #[.agg #[.int .i64 a6, .int .i64 ab, .int .u64 a1, .int .i64 a4, .slice a0 a3 a2, .slice a7 a8 a9], .int .u64 0, .int .i64 ad]) ao) else (
 Q0T.J1 ah ae ag (blk aj.heap.size) aw aq I0 av ax R an)

abbrev Q0T.J3 (bo : Int) (bv : Option Addr) (bw : Int) (bq bf : Addr) (R : RW) (bb : World) : Prop :=
 ∃ (bd : Int), bb.cell? (bq.add 1) = some (.int .i64 bd) ∧
 bif decide (bd ≥ 0) then (
 ∃ (b5 : Int), bb.cell? (bq.add 1) = some (.int .i64 b5) ∧
 Calls Try.prog 32 #[.int .i64 (IntKind.i64.wrap (b5 + 1))] bb fun bp bu => ∃ (ay : Option Addr) (b3 b0 : Nat), bp = .returned (.slice ay b3 b0) ∧
 Calls Try.prog 33 #[.int .u64 bw] bu fun bs br => ∃ (b1 : Option Addr) (av au : Nat), bs = .returned (.slice b1 av au) ∧
 Calls Try.prog 31 #[.pointer bv, .int .u64 bo, .slice ay b3 b0, .slice b1 av au] br fun bt bl => ∃ (b2 : Option Addr) (b4 aq : Nat) (bj : Int), bt = .returned (.tuple #[.slice b2 b4 aq, .int .i64 bj]) ∧
 Q07 bl ((bf.add 5).add 0) ∧
 thenW (bl.setCell ((bf.add 5).add 0) (.slice b2 b4 aq)) fun bn =>
 ∃ (bg bi af ar : Int) (ak : Option Addr) (ad aj : Nat) (b8 : Option Addr) (ba b6 : Nat), cellsAt bn bf [.int .i64 bg, .int .i64 bi, .int .u64 af, .int .i64 ar, .slice ak ad aj, .slice b8 ba b6] 0 ∧
 putsK bn bf [.int .i64 bg, .int .i64 bi, .int .u64 af, .int .i64 ar, .slice ak ad aj, .slice b8 ba b6] 0 fun bk =>
 ∃ (ap az a0 a9 : Int) (a6 : Option Addr) (a5 a4 : Nat) (ao : Option Addr) (ae an : Nat), cellsAt bk bf [.int .i64 ap, .int .i64 az, .int .u64 a0, .int .i64 a9, .slice a6 a5 a4, .slice ao ae an] 0 ∧
 R (.tuple #[.agg #[.int .i64 ap, .int .i64 az, .int .u64 a0, .int .i64 a9, .slice a6 a5 a4, .slice ao ae an], .int .u64 bo, .int .i64 0]) bk) else (
 ∃ (b9 bh ai aw : Int) (ab : Option Addr) (ag ac : Nat) (b7 : Option Addr) (be bc : Nat), cellsAt bb bf [.int .i64 b9, .int .i64 bh, .int .u64 ai, .int .i64 aw, .slice ab ag ac, .slice b7 be bc] 0 ∧
 putsK bb bf [.int .i64 b9, .int .i64 bh, .int .u64 ai, .int .i64 aw, .slice ab ag ac, .slice b7 be bc] 0 fun bm =>
 ∃ (aa ax a3 a8 : Int) (a1 : Option Addr) (a7 a2 : Nat) (am : Option Addr) (al ah : Nat), cellsAt bm bf [.int .i64 aa, .int .i64 ax, .int .u64 a3, .int .i64 a8, .slice a1 a7 a2, .slice am al ah] 0 ∧
 R (.tuple #[.agg #[.int .i64 aa, .int .i64 ax, .int .u64 a3, .int .i64 a8, .slice a1 a7 a2, .slice am al ah], .int .u64 bo, .int .i64 0]) bm)

abbrev Q0T.J4 (ao b0 : Addr) (ar : Option Addr) (b1 : Int) (R : RW) (av : World) : Prop :=
 Calls Try.prog 28 #[.pointer ar] av fun ax ap => ∃ (aj : Int), ax = .returned (.int .u64 aj) ∧
 Q07 ap ((ao.add 0).add 0) ∧
 thenW (ap.setCell ((ao.add 0).add 0) (.int .i64 3)) fun aq =>
 ∃ (ai : Option Addr) (ak al : Nat) (ab : Int), cellsAt aq b0 [.slice ai ak al, .int .i64 ab] 0 ∧
 Calls Try.prog 29 #[.agg #[.slice ai ak al, .int .i64 ab]] aq fun ay au => ∃ (ah : Option Addr) (ac an : Nat), ay = .returned (.slice ah ac an) ∧
 ∃ (I0 : Nat → List Value → World → Prop) (b2 : Nat), I0 b2 [.int .u64 aj, .int .i64 0] au ∧ ∀ (az : Nat) (af : World) (ag aw : Int), I0 az [.int .u64 ag, .int .i64 aw] af →
 bif decide (aw < (ac : Int)) then (
 Q0T.J2 ag aw I0 ao ar az ah ac R af) else (
 ∃ (ad : Option Addr) (a9 ae : Nat), af.cell? (ao.add 4) = some (.slice ad a9 ae) ∧
 bif (a9 : Int) == 0 then (
 putsK af ao [.int .i64 0, .int .i64 0, .int .u64 0, .int .i64 0, .slice none 0 0, .slice none 0 0] 0 fun am =>
 ∃ (a5 aa a2 a4 : Int) (a3 : Option Addr) (a1 a0 : Nat) (a6 : Option Addr) (a8 a7 : Nat), cellsAt am ao [.int .i64 a5, .int .i64 aa, .int .u64 a2, .int .i64 a4, .slice a3 a1 a0, .slice a6 a8 a7] 0 ∧
 R (.tuple #[.agg #[.int .i64 a5, .int .i64 aa, .int .u64 a2, .int .i64 a4, .slice a3 a1 a0, .slice a6 a8 a7], .int .u64 0, .int .i64 10]) am) else (
 Q0T.J3 ag ar b1 b0 ao R af))

def Q0T.M (o1 ar : Option Addr) (aq ao : Nat) (aj am : Int) (R : RW) (w : World) : Prop :=
 thenW (w.alloc (.cells #[.slice ar aq ao, .int .i64 aj] 43)) fun al =>
 thenW (al.alloc (.cells #[.int .i64 0, .int .i64 0, .int .u64 0, .int .i64 0, .slice none 0 0, .slice none 0 0] 52)) fun ap =>
 bif Option.isNone o1 then (
 ∃ (ai ak ac ae : Int) (a7 : Option Addr) (a6 a9 : Nat) (af : Option Addr) (ah ag : Nat), cellsAt ap (blk al.heap.size) [.int .i64 ai, .int .i64 ak, .int .u64 ac, .int .i64 ae, .slice a7 a6 a9, .slice af ah ag] 0 ∧
 putsK ap (blk al.heap.size) [.int .i64 ai, .int .i64 ak, .int .u64 ac, .int .i64 ae, .slice a7 a6 a9, .slice af ah ag] 0 fun an =>
 ∃ (ab ad a2 a4 : Int) (a3 : Option Addr) (a1 a0 : Nat) (a5 : Option Addr) (a8 aa : Nat), cellsAt an (blk al.heap.size) [.int .i64 ab, .int .i64 ad, .int .u64 a2, .int .i64 a4, .slice a3 a1 a0, .slice a5 a8 aa] 0 ∧
 R (.tuple #[.agg #[.int .i64 ab, .int .i64 ad, .int .u64 a2, .int .i64 a4, .slice a3 a1 a0, .slice a5 a8 aa], .int .u64 0, .int .i64 23]) an) else (
 Q0T.J4 (blk al.heap.size) (blk w.heap.size) o1 am R ap)

theorem Q0T.ok (o1 a2 : Option Addr) (a3 a4 : Nat) (a0 a1 : Int) {R : RW} {w : World} (h : Q0T.M o1 a2 a3 a4 a0 a1 R w) : Calls Try.prog 9 #[.pointer o1, .agg #[.slice a2 a3 a4, .int .i64 a0], .int .u64 a1] w fun e w' => ∃ v, e = .returned v ∧ R v w' :=
  Q0l follows (H := [(0, [0, 2, 4, 6, 20, 21], [(7, (.one (.int .u64))), (22, (.one (.int .i64)))])]) (args := [.pointer o1, .agg #[.slice a2 a3 a4, .int .i64 a0], .int .u64 a1]) (cast (by kernel_rfl) h)

def Q0T.N (o1 bz : Option Addr) (bu br : Nat) (a1 bd : Int) (R : RW) (w : World) : Prop :=
 (o1 = none →
 ∀ (c1 : World), Ext no w c1 →
 R (.tuple #[.agg #[.int .i64 0, .int .i64 0, .int .u64 0, .int .i64 0, .slice none 0 0, .slice none 0 0], .int .u64 0, .int .i64 23]) c1) ∧
 (o1 ≠ none →
 ∀ (bo : World) (bl aq : Nat), Ext no w bo → Priv w bo [bl, aq] →
 Calls Try.prog 28 #[.pointer o1] bo fun bs bb => ∃ (b4 : Int), bs = .returned (.int .u64 b4) ∧
 Keep [bl, aq] bo bb ∧
 ∀ (b7 : World), Ext (fun b => b = aq) bb b7 →
 Calls Try.prog 29 #[.agg #[.slice bz bu br, .int .i64 a1]] b7 fun bx bm => ∃ (av : Option Addr) (a8 b5 : Nat), bx = .returned (.slice av a8 b5) ∧
 Keep [bl, aq] b7 bm ∧
 ∃ (I0 : Nat → List Value → World → Prop) (c5 : Nat), I0 c5 [.int .u64 b4, .int .i64 0, .int .i64 3, .int .i64 0, .int .u64 0, .int .i64 0, .slice none 0 0, .slice none 0 0] bm ∧ ∀ (c4 : Nat) (ak : World) (a7 b3 a9 ap a4 a5 : Int) (a3 : Option Addr) (a0 a2 : Nat) (am : Option Addr) (al an : Nat), I0 c4 [.int .u64 a7, .int .i64 b3, .int .i64 a9, .int .i64 ap, .int .u64 a4, .int .i64 a5, .slice a3 a0 a2, .slice am al an] ak →
 (b3 < (a8 : Int) →
 ∃ c2 : Addr, av = some c2 ∧
 0 ≤ (b3 : Int) ∧ (b3 : Int) < (a8 : Int) ∧
 ∃ (ay a6 b0 ba ax : Int), cellsAt ak (c2.add (Int.toNat b3 * 5)) [.int .i64 ay, .int .u64 a6, .int .i64 b0, .int .i64 ba, .int .i64 ax] 0 ∧
 ∀ (az : World) (c3 : Nat), Ext no ak az → Priv ak az [c3] →
 Calls Try.prog 30 #[.pointer o1, .int .u64 a6, .int .u64 a7] az fun bw b1 => ∃ (ar : Option Addr) (au ao : Nat) (aa : Int), bw = .returned (.tuple #[.slice ar au ao, .int .i64 aa]) ∧
 Keep [bl, aq, c3] az b1 ∧
 (aa ≠ 0 →
 ∀ (bn : World), Ext (fun b => b = aq) b1 bn →
 R (.tuple #[.agg #[.int .i64 0, .int .i64 0, .int .u64 0, .int .i64 0, .slice none 0 0, .slice none 0 0], .int .u64 0, .int .i64 aa]) bn) ∧
 (aa = 0 →
 ∀ (aw : World) (bp : Nat), Ext no b1 aw → Blk aw bp 60 [.int .i64 ay, .slice ar au ao] → b1.heap.size ≤ bp → bp < aw.heap.size →
 ∃ (bf : Option Addr) (bg bk : Nat) (b6 : World), (Builtin.append_ #[50, 50] 50 #[.slice a3 a0 a2, .slice (some (blk bp)) 1 1]).run Try.prog aw = .ok (.slice bf bg bk) b6 ∧
 Keep [bl, aq] aw b6 ∧
 (-9223372036854775808 : Int) ≤ (b3 + 1) ∧ (b3 + 1) < 9223372036854775808 ∧
 ∀ (be : World), Ext (fun b => b = aq) b6 be →
 ∃ c0, c0 < c4 ∧ I0 c0 [.int .u64 a7, .int .i64 (b3 + 1), .int .i64 a9, .int .i64 ap, .int .u64 a4, .int .i64 a5, .slice bf bg bk, .slice am al an] be)) ∧
 ((a8 : Int) ≤ b3 →
 ((a0 : Int) = 0 →
 ∀ (bh : World), Ext (fun b => b = aq) ak bh →
 R (.tuple #[.agg #[.int .i64 0, .int .i64 0, .int .u64 0, .int .i64 0, .slice none 0 0, .slice none 0 0], .int .u64 0, .int .i64 10]) bh) ∧
 ((a0 : Int) ≠ 0 →
 (a1 ≥ 0 →
 (-9223372036854775808 : Int) ≤ (a1 + 1) ∧ (a1 + 1) < 9223372036854775808 ∧
 Calls Try.prog 32 #[.int .i64 (a1 + 1)] ak fun bv b9 => ∃ (ag : Option Addr) (ah ad : Nat), bv = .returned (.slice ag ah ad) ∧
 Keep [aq] ak b9 ∧
 Calls Try.prog 33 #[.int .u64 bd] b9 fun bq b8 => ∃ (ab : Option Addr) (ae af : Nat), bq = .returned (.slice ab ae af) ∧
 Keep [aq] b9 b8 ∧
 Calls Try.prog 31 #[.pointer o1, .int .u64 a7, .slice ag ah ad, .slice ab ae af] b8 fun bt bj => ∃ (ai : Option Addr) (aj ac : Nat) (b2 : Int), bt = .returned (.tuple #[.slice ai aj ac, .int .i64 b2]) ∧
 Keep [aq] b8 bj ∧
 ∀ (bi : World), Ext (fun b => b = aq) bj bi →
 R (.tuple #[.agg #[.int .i64 a9, .int .i64 ap, .int .u64 a4, .int .i64 a5, .slice a3 a0 a2, .slice ai aj ac], .int .u64 a7, .int .i64 0]) bi) ∧
 (a1 < 0 →
 ∀ (bc : World), Ext (fun b => b = aq) ak bc →
 R (.tuple #[.agg #[.int .i64 a9, .int .i64 ap, .int .u64 a4, .int .i64 a5, .slice a3 a0 a2, .slice am al an], .int .u64 a7, .int .i64 0]) bc))))

theorem Q0T.up (o1 b2 : Option Addr) (az ay : Nat) (ae b5 : Int) {R : RW} {w : World} (h : Q0T.N o1 b2 az ay ae b5 R w) : Q0T.M o1 b2 az ay ae b5 R w := by
  unfold Q0T.M
  unfold Q0T.N at h
  refine Q01 fun ai e5 => ?_
  have af := Blk.of_new e5
  have db := ((Ext.refl no w)).size
  have co := (Ext.refl no w).x_alloc e5
  refine Q01 fun cx e6 => ?_
  have a0 := Blk.of_new e6
  have cq := (co).size
  have b3 := Nat.ne_of_lt af.lt
  have af := af.x_alloc e6
  have ct := co.x_alloc e6
  refine bif_of (fun c7 => ?_) (fun c7 => ?_)
  ·have h := h.1 (Q1z c7)
   refine ⟨0, 0, 0, 0, none, 0, 0, none, 0, 0, ⟨a0.celli 0 rfl rfl, a0.celli 1 rfl rfl, a0.celli 2 rfl rfl, a0.celli 3 rfl rfl, a0.celli 4 rfl rfl, a0.celli 5 rfl rfl, trivial⟩, ?_⟩
   refine Q0g (k := 0) (j := 0) a0 (Nat.le_of_ble_eq_true rfl) fun cr X8 b8 => ?_
   have d9 := ct.x_puts X8 (.inr cq)
   have a0 : Blk cr ai.heap.size 52 [.int .i64 0, .int .i64 0, .int .u64 0, .int .i64 0, .slice none 0 0, .slice none 0 0] := b8
   refine ⟨0, 0, 0, 0, none, 0, 0, none, 0, 0, ⟨a0.celli 0 rfl rfl, a0.celli 1 rfl rfl, a0.celli 2 rfl rfl, a0.celli 3 rfl rfl, a0.celli 4 rfl rfl, a0.celli 5 rfl rfl, trivial⟩, ?_⟩
   have h := h cr d9
   exact h
  have h := h.2 (Q1A c7)
  unfold Q0T.J4
  have h := h cx (w.heap.size) (ai.heap.size) ct (Priv.cons db af.lt (Priv.cons cq a0.lt Priv.nil))
  refine h.mono fun dg b9 h => ?_
  obtain ⟨bq, he, hk, h⟩ := h
  refine ⟨bq, he, ?_⟩
  have af := hk.blk af (by simp)
  have a0 := hk.blk a0 (by simp)
  have c9 : Ext (fun b => b = ai.heap.size) b9 b9 := ((Ext.refl no b9)).none
  refine ⟨a0.cani 0 rfl rfl, Q01 fun bh cj => ?_⟩
  have bu := c9.x_set (q := ai.heap.size) (i := 0) rfl (.inl rfl) cj
  have af := af.oth (q := ai.heap.size) (i := 0) rfl b3 cj
  have a0 : Blk bh ai.heap.size 52 [.int .i64 3, .int .i64 0, .int .u64 0, .int .i64 0, .slice none 0 0, .slice none 0 0] := a0.seti 0 rfl cj
  refine ⟨b2, az, ay, ae, ⟨af.celli 0 rfl rfl, af.celli 1 rfl rfl, trivial⟩, ?_⟩
  have h := h bh bu
  refine h.mono fun d1 d0 h => ?_
  obtain ⟨b7, b6, ba, he, hk, h⟩ := h
  refine ⟨b7, b6, ba, he, ?_⟩
  have af := hk.blk af (by simp)
  have a0 := hk.blk a0 (by simp)
  obtain ⟨I0, d3, h0, h⟩ := h
  refine ⟨fun k vs ww => ∃ (a6 a7 a1 a5 : Int) (a3 : Option Addr) (a4 a2 : Nat) (a9 : Option Addr) (a8 aa : Nat), Blk ww w.heap.size 43 [.slice b2 az ay, .int .i64 ae] ∧ Blk ww ai.heap.size 52 [.int .i64 a6, .int .i64 a7, .int .u64 a1, .int .i64 a5, .slice a3 a4 a2, .slice a9 a8 aa] ∧ I0 k (vs ++ [.int .i64 a6, .int .i64 a7, .int .u64 a1, .int .i64 a5, .slice a3 a4 a2, .slice a9 a8 aa]) ww, d3, ⟨3, 0, 0, 0, none, 0, 0, none, 0, 0, af, a0, h0⟩, fun cz ah bo d7 hI => ?_⟩
  obtain ⟨a6, a7, a1, a5, a3, a4, a2, a9, a8, aa, af, a0, hI⟩ := hI
  have h := h cz ah bo d7 a6 a7 a1 a5 a3 a4 a2 a9 a8 aa hI
  refine bif_fo (fun cc => ?_) (fun cc => ?_)
  ·have h := h.2 (Int.not_lt.1 (of_decide_eq_false cc))
   refine ⟨a3, a4, a2, a0.celli 4 rfl rfl, ?_⟩
   refine bif_of (fun c1 => ?_) (fun c1 => ?_)
   ·have h := h.1 (beq_t c1)
    have c2 : Ext (fun b => b = ai.heap.size) ah ah := ((Ext.refl no ah)).none
    refine Q0g (k := 0) (j := 0) a0 (Nat.le_of_ble_eq_true rfl) fun bm de dk => ?_
    have c0 := c2.x_puts de (.inl rfl)
    have a0 : Blk bm ai.heap.size 52 [.int .i64 0, .int .i64 0, .int .u64 0, .int .i64 0, .slice none 0 0, .slice none 0 0] := dk
    refine ⟨0, 0, 0, 0, none, 0, 0, none, 0, 0, ⟨a0.celli 0 rfl rfl, a0.celli 1 rfl rfl, a0.celli 2 rfl rfl, a0.celli 3 rfl rfl, a0.celli 4 rfl rfl, a0.celli 5 rfl rfl, trivial⟩, ?_⟩
    have h := h bm c0
    exact h
   have h := h.2 (beq_f c1)
   unfold Q0T.J3
   refine ⟨ae, af.celli 1 rfl rfl, ?_⟩
   refine bif_fo (fun c6 => ?_) (fun c6 => ?_)
   ·have h := h.2 (Int.not_le.1 (of_decide_eq_false c6))
    refine ⟨a6, a7, a1, a5, a3, a4, a2, a9, a8, aa, ⟨a0.celli 0 rfl rfl, a0.celli 1 rfl rfl, a0.celli 2 rfl rfl, a0.celli 3 rfl rfl, a0.celli 4 rfl rfl, a0.celli 5 rfl rfl, trivial⟩, ?_⟩
    have ck : Ext (fun b => b = ai.heap.size) ah ah := ((Ext.refl no ah)).none
    refine Q0g (k := 0) (j := 0) a0 (Nat.le_of_ble_eq_true rfl) fun bs d6 d8 => ?_
    have cm := ck.x_puts d6 (.inl rfl)
    have a0 : Blk bs ai.heap.size 52 [.int .i64 a6, .int .i64 a7, .int .u64 a1, .int .i64 a5, .slice a3 a4 a2, .slice a9 a8 aa] := d8
    refine ⟨a6, a7, a1, a5, a3, a4, a2, a9, a8, aa, ⟨a0.celli 0 rfl rfl, a0.celli 1 rfl rfl, a0.celli 2 rfl rfl, a0.celli 3 rfl rfl, a0.celli 4 rfl rfl, a0.celli 5 rfl rfl, trivial⟩, ?_⟩
    have h := h bs cm
    exact h
   have h := h.1 (of_decide_eq_true c6)
   refine ⟨ae, af.celli 1 rfl rfl, ?_⟩
   obtain ⟨cl, cf, h⟩ := h
   try rw [w64 cl cf]
   refine h.mono fun dl di h => ?_
   obtain ⟨ap, au, ar, he, hk, h⟩ := h
   refine ⟨ap, au, ar, he, ?_⟩
   have a0 := hk.blk a0 (by simp)
   refine h.mono fun cw dd h => ?_
   obtain ⟨aq, ao, an, he, hk, h⟩ := h
   refine ⟨aq, ao, an, he, ?_⟩
   have a0 := hk.blk a0 (by simp)
   refine h.mono fun cy bc h => ?_
   obtain ⟨ad, ab, ac, aw, he, hk, h⟩ := h
   refine ⟨ad, ab, ac, aw, he, ?_⟩
   have a0 := hk.blk a0 (by simp)
   have cd : Ext (fun b => b = ai.heap.size) bc bc := ((Ext.refl no bc)).none
   refine ⟨a0.cani 5 rfl rfl, Q01 fun ch cs => ?_⟩
   have bv := cd.x_set (q := ai.heap.size) (i := 5) rfl (.inl rfl) cs
   have a0 : Blk ch ai.heap.size 52 [.int .i64 a6, .int .i64 a7, .int .u64 a1, .int .i64 a5, .slice a3 a4 a2, .slice ad ab ac] := a0.seti 5 rfl cs
   refine ⟨a6, a7, a1, a5, a3, a4, a2, ad, ab, ac, ⟨a0.celli 0 rfl rfl, a0.celli 1 rfl rfl, a0.celli 2 rfl rfl, a0.celli 3 rfl rfl, a0.celli 4 rfl rfl, a0.celli 5 rfl rfl, trivial⟩, ?_⟩
   refine Q0g (k := 0) (j := 0) a0 (Nat.le_of_ble_eq_true rfl) fun bj df dh => ?_
   have bz := bv.x_puts df (.inl rfl)
   have a0 : Blk bj ai.heap.size 52 [.int .i64 a6, .int .i64 a7, .int .u64 a1, .int .i64 a5, .slice a3 a4 a2, .slice ad ab ac] := dh
   refine ⟨a6, a7, a1, a5, a3, a4, a2, ad, ab, ac, ⟨a0.celli 0 rfl rfl, a0.celli 1 rfl rfl, a0.celli 2 rfl rfl, a0.celli 3 rfl rfl, a0.celli 4 rfl rfl, a0.celli 5 rfl rfl, trivial⟩, ?_⟩
   have h := h bj bz
   exact h
  have h := h.1 (of_decide_eq_true cc)
  unfold Q0T.J2
  obtain ⟨dm, cn, h⟩ := h
  refine Q03 cn ?_
  obtain ⟨d5, dj, h⟩ := h
  refine ⟨d5, dj, ?_⟩
  obtain ⟨ak, ag, al, b4, aj, cg, h⟩ := h
  refine ⟨ak, ag, al, b4, aj, cg, ?_⟩
  refine Q01 fun cv bt => ?_
  have bg := Blk.of_new bt
  have cp := ((Ext.refl no ah)).size
  have bl := Nat.ne_of_lt af.lt
  have af := af.x_alloc bt
  have bn := Nat.ne_of_lt a0.lt
  have a0 := a0.x_alloc bt
  have bw := (Ext.refl no ah).x_alloc bt
  refine Q0g (k := 0) (j := 0) bg (Nat.le_of_ble_eq_true rfl) fun bk bx cu => ?_
  have c8 := bw.x_puts bx (.inr cp)
  have af := af.x_puts bx bl
  have a0 := a0.x_puts bx bn
  have bg : Blk bk ah.heap.size 70 [.int .i64 ak, .int .u64 ag, .int .i64 al, .int .i64 b4, .int .i64 aj] := cu
  refine ⟨ag, bg.celli 1 rfl rfl, ?_⟩
  have h := h bk (ah.heap.size) c8 (Priv.cons cp bg.lt Priv.nil)
  refine h.mono fun dc am h => ?_
  obtain ⟨b0, ax, av, be, he, hk, h⟩ := h
  refine ⟨b0, ax, av, be, he, ?_⟩
  have af := hk.blk af (by simp)
  have a0 := hk.blk a0 (by simp)
  have bg := hk.blk bg (by simp)
  refine bif_of (fun ci => ?_) (fun ci => ?_)
  ·have h := h.1 (bne_t ci)
   have c5 : Ext (fun b => b = ai.heap.size) am am := ((Ext.refl no am)).none
   refine Q0g (k := 0) (j := 0) a0 (Nat.le_of_ble_eq_true rfl) fun br d2 da => ?_
   have cb := c5.x_puts d2 (.inl rfl)
   have a0 : Blk br ai.heap.size 52 [.int .i64 0, .int .i64 0, .int .u64 0, .int .i64 0, .slice none 0 0, .slice none 0 0] := da
   refine ⟨0, 0, 0, 0, none, 0, 0, none, 0, 0, ⟨a0.celli 0 rfl rfl, a0.celli 1 rfl rfl, a0.celli 2 rfl rfl, a0.celli 3 rfl rfl, a0.celli 4 rfl rfl, a0.celli 5 rfl rfl, trivial⟩, ?_⟩
   have h := h br cb
   exact h
  have h := h.2 (bne_f ci)
  unfold Q0T.J1
  refine ⟨a3, a4, a2, a0.celli 4 rfl rfl, ?_⟩
  refine ⟨ak, bg.celli 0 rfl rfl, ?_⟩
  refine Q01 fun ce bp => ?_
  have af := af.x_alloc bp
  have a0 := a0.x_alloc bp
  have h := h ce am.heap.size ((Ext.refl no am).x_alloc bp) (Blk.of_new bp) ((Ext.refl no am)).size (Q0w bp)
  obtain ⟨bf, bb, bd, b1, hr, hk, h⟩ := h
  refine ⟨bf, bb, bd, b1, hr, ?_⟩
  have af := hk.blk af (by simp)
  have a0 := hk.blk a0 (by simp)
  have ca : Ext (fun b => b = ai.heap.size) b1 b1 := ((Ext.refl no b1)).none
  refine ⟨a0.cani 4 rfl rfl, Q01 fun bi c4 => ?_⟩
  have c3 := ca.x_set (q := ai.heap.size) (i := 4) rfl (.inl rfl) c4
  have af := af.oth (q := ai.heap.size) (i := 4) rfl b3 c4
  have a0 : Blk bi ai.heap.size 52 [.int .i64 a6, .int .i64 a7, .int .u64 a1, .int .i64 a5, .slice bf bb bd, .slice a9 a8 aa] := a0.seti 4 rfl c4
  obtain ⟨cl, cf, h⟩ := h
  try rw [w64 cl cf]
  have h := h bi c3
  obtain ⟨d4, hk, h⟩ := h
  exact ⟨d4, hk, a6, a7, a1, a5, bf, bb, bd, a9, a8, aa, af, a0, h⟩

theorem Q0T.go (o1 a2 : Option Addr) (a3 a4 : Nat) (a0 a1 : Int) {R : RW} {w : World} (h : Q0T.N o1 a2 a3 a4 a0 a1 R w) : Calls Try.prog 9 #[.pointer o1, .agg #[.slice a2 a3 a4, .int .i64 a0], .int .u64 a1] w fun e w' => ∃ v, e = .returned v ∧ R v w' := Q0T.ok o1 a2 a3 a4 a0 a1 (Q0T.up o1 a2 a3 a4 a0 a1 h)
abbrev Q0I.J1 (a7 : Int) (a9 : Option Addr) (ab aa : Nat) (a8 : Int) (I0 : Nat → List Value → World → Prop) (m6 : Nat) (R : RW) (a1 : World) : Prop :=
 256 ≠ (0 : Int) ∧ thenW (a1.alloc (.cells #[.int .u8 (IntKind.u8.wrap (Int.tmod a7 256))] 5)) fun a5 =>
 ∃ (a2 : Option Addr) (a4 a3 : Nat) (a0 : World), (Builtin.append_ #[29, 29] 29 #[.slice (some (blk a1.heap.size)) 1 1, .slice a9 ab aa]).run Try.prog a5 = .ok (.slice a2 a4 a3) a0 ∧
 256 ≠ (0 : Int) ∧ ∃ a6, a6 < m6 ∧ I0 a6 [.int .u64 (IntKind.u64.wrap (Int.tdiv a7 256)), .slice a2 a4 a3, .int .i64 (IntKind.i64.wrap (a8 + 1))] a0

def Q0I.M (n1 : Int) (R : RW) (w : World) : Prop :=
 ∃ (I0 : Nat → List Value → World → Prop) (m5 : Nat), I0 m5 [.int .u64 n1, .slice none 0 0, .int .i64 0] w ∧ ∀ (m6 : Nat) (a2 : World) (n2 : Int) (a1 : Option Addr) (a0 a3 : Nat) (i4 : Int), I0 m6 [.int .u64 n2, .slice a1 a0 a3, .int .i64 i4] a2 →
 bif decide (i4 < 8) then (
 Q0I.J1 n2 a1 a0 a3 i4 I0 m6 R a2) else (
 R (.slice a1 a0 a3) a2)

theorem Q0I.ok (n1 : Int) {R : RW} {w : World} (h : Q0I.M n1 R w) : Calls Try.prog 55 #[.int .u64 n1] w fun e w' => ∃ v, e = .returned v ∧ R v w' :=
  Q0l follows (H := [(0, [], [(0, (.one (.int .u64))), (3, (.one .slice)), (4, (.one (.int .i64)))])]) (args := [.int .u64 n1]) (cast (by kernel_rfl) h)

def Q0I.N (n1 : Int) (R : RW) (w : World) : Prop :=
 ∃ (I0 : Nat → List Value → World → Prop) (m5 : Nat), I0 m5 [.int .u64 n1, .slice none 0 0, .int .i64 0] w ∧ ∀ (m6 : Nat) (a4 : World) (n2 : Int) (a8 : Option Addr) (a7 a9 : Nat) (i4 : Int), I0 m6 [.int .u64 n2, .slice a8 a7 a9, .int .i64 i4] a4 →
 (i4 < 8 →
 ∀ (a6 : World) (a5 : Nat), Ext no a4 a6 → Blk a6 a5 5 [.int .u8 (IntKind.u8.wrap (Int.tmod n2 256))] → a4.heap.size ≤ a5 → a5 < a6.heap.size →
 ∃ (a0 : Option Addr) (a1 a3 : Nat) (a2 : World), (Builtin.append_ #[29, 29] 29 #[.slice (some (blk a5)) 1 1, .slice a8 a7 a9]).run Try.prog a6 = .ok (.slice a0 a1 a3) a2 ∧
 (-9223372036854775808 : Int) ≤ (i4 + 1) ∧ (i4 + 1) < 9223372036854775808 ∧
 ∃ aa, aa < m6 ∧ I0 aa [.int .u64 (IntKind.u64.wrap (Int.tdiv n2 256)), .slice a0 a1 a3, .int .i64 (i4 + 1)] a2) ∧
 ((8 : Int) ≤ i4 →
 R (.slice a8 a7 a9) a4)

theorem Q0I.up (n1 : Int) {R : RW} {w : World} (h : Q0I.N n1 R w) : Q0I.M n1 R w := by
  unfold Q0I.M
  unfold Q0I.N at h
  obtain ⟨I0, m5, h0, h⟩ := h
  refine ⟨I0, m5, h0, fun m6 a0 n2 a9 a6 ab i4 hI => ?_⟩
  have h := h m6 a0 n2 a9 a6 ab i4 hI
  refine bif_fo (fun c8 => ?_) (fun c8 => ?_)
  ·have h := h.2 (Int.not_lt.1 (of_decide_eq_false c8))
   exact h
  have h := h.1 (of_decide_eq_true c8)
  unfold Q0I.J1
  refine ⟨by decide, ?_⟩
  refine Q01 fun aa e9 => ?_
  have h := h aa a0.heap.size ((Ext.refl no a0).x_alloc e9) (Blk.of_new e9) ((Ext.refl no a0)).size (Q0w e9)
  obtain ⟨a1, a2, a4, a3, hr, h⟩ := h
  refine ⟨a1, a2, a4, a3, hr, ?_⟩
  refine ⟨by decide, ?_⟩
  obtain ⟨a7, a5, h⟩ := h
  try rw [w64 a7 a5]
  obtain ⟨a8, hk, h⟩ := h
  exact ⟨a8, hk, h⟩

theorem Q0I.go (n1 : Int) {R : RW} {w : World} (h : Q0I.N n1 R w) : Calls Try.prog 55 #[.int .u64 n1] w fun e w' => ∃ v, e = .returned v ∧ R v w' := Q0I.ok n1 (Q0I.up n1 h)
abbrev Q0s.J1 (al : Option Addr) (ag aj : Nat) (a6 : Int) (I0 : Nat → List Value → World → Prop) (ah : Option Addr) (ai : Nat) (ae : Addr) (ak : Nat) (R : RW) (ac : World) : Prop :=
 thenW (ac.drew) fun a3 =>
 ∃ (a0 : Option Addr) (a2 a1 : Nat), a3.cell? (ae.add 4) = some (.slice a0 a2 a1) ∧
 ah.elim False fun af =>
 0 ≤ (a6 : Int) ∧ (a6 : Int) < (ai : Int) ∧
 ∃ (a5 : Int), a3.cell? ((af.add (Int.toNat a6 * 5)).add 0) = some (.int .i64 a5) ∧
 thenW (a3.alloc (.cells #[.int .i64 a5, .slice al ag aj] 119)) fun a9 =>
 a9.cell? (ae.add 4) = some (.slice a0 a2 a1) ∧
 ∃ (a8 : Option Addr) (aa a7 : Nat) (a4 : World), (Builtin.append_ #[28, 28] 28 #[.slice a0 a2 a1, .slice (some (blk a3.heap.size)) 1 1]).run Try.prog a9 = .ok (.slice a8 aa a7) a4 ∧
 Q07 a4 ((ae.add 4).add 0) ∧
 thenW (a4.setCell ((ae.add 4).add 0) (.slice a8 aa a7)) fun ab =>
 ∃ ad, ad < ak ∧ I0 ad [.int .i64 (IntKind.i64.wrap (a6 + 1))] ab

abbrev Q0s.J2 (ai : Int) (I0 : Nat → List Value → World → Prop) (ak : Option Addr) (al : Nat) (an : Addr) (ar : Int) (am : Addr) (aq : Option Addr) (ap : Nat) (R : RW) (ag : World) : Prop :=
 ak.elim False fun ao =>
 0 ≤ (ai : Int) ∧ (ai : Int) < (al : Int) ∧
 ∃ (a9 : Int), ag.cell? ((ao.add (Int.toNat ai * 5)).add 1) = some (.int .u64 a9) ∧
 Calls Try.prog 52 #[.pointer aq, .int .u64 a9, .int .u64 ar] ag fun aj ah => ∃ (ad : Option Addr) (ac ae : Nat) (ab : Int), aj = .returned (.tuple #[.slice ad ac ae, .int .i64 ab]) ∧
 bif ab != 0 then (
 putsK ah am [.int .i64 0, .int .i64 0, .int .u64 0, .int .i64 0, .slice none 0 0, .slice none 0 0] 0 fun af =>
 ∃ (a6 aa a2 a4 : Int) (a0 : Option Addr) (a3 a1 : Nat) (a7 : Option Addr) (a8 a5 : Nat), cellsAt af am [.int .i64 a6, .int .i64 aa, .int .u64 a2, .int .i64 a4, .slice a0 a3 a1, .slice a7 a8 a5] 0 ∧
 R (.tuple #[.agg #[.int .i64 a6, .int .i64 aa, .int .u64 a2, .int .i64 a4, .slice a0 a3 a1, .slice a7 a8 a5], .int .u64 0, .int .i64 ab]) af) else (
 Q0s.J1 ad ac ae ai I0 ak al an ap R ah)

abbrev Q0s.J3 (c3 : Option Addr) (bz : Nat) (bn : Addr) (bu : Int) (bs bx : Addr) (c1 : Option Addr) (c4 : Int) (R : RW) (bw : World) : Prop :=
 ∃ (I0 : Nat → List Value → World → Prop) (c2 : Nat), I0 c2 [.int .i64 0] bw ∧ ∀ (c0 : Nat) (bc : World) (bv : Int), I0 c0 [.int .i64 bv] bc →
 bif decide (bv < (bz : Int)) then (
 Q0s.J2 bv I0 c3 bz bn bu bs c1 c0 R bc) else (
 ∃ (b8 : Int), bc.cell? (bx.add 1) = some (.int .i64 b8) ∧
 bif b8 != (-1) then (
 ∃ (b2 : Int), bc.cell? (bx.add 1) = some (.int .i64 b2) ∧
 Calls Try.prog 54 #[.int .u64 (IntKind.u64.wrap (IntKind.i64.wrap (b2 + 1)))] bc fun bo br => ∃ (bf : Option Addr) (bg bh : Nat), bo = .returned (.slice bf bg bh) ∧
 Calls Try.prog 55 #[.int .u64 c4] br fun bt bq => ∃ (av : Option Addr) (b1 ar : Nat), bt = .returned (.slice av b1 ar) ∧
 Calls Try.prog 53 #[.pointer c1, .int .u64 bu, .slice bf bg bh, .slice av b1 ar] bq fun bp bl => ∃ (ay : Option Addr) (au aw : Nat) (bi : Int), bp = .returned (.tuple #[.slice ay au aw, .int .i64 bi]) ∧
 Q07 bl ((bn.add 5).add 0) ∧
 thenW (bl.setCell ((bn.add 5).add 0) (.slice ay au aw)) fun bk =>
 ∃ (b6 bd ao az : Int) (ac : Option Addr) (aa ad : Nat) (b3 : Option Addr) (ba b9 : Nat), cellsAt bk bn [.int .i64 b6, .int .i64 bd, .int .u64 ao, .int .i64 az, .slice ac aa ad, .slice b3 ba b9] 0 ∧
 putsK bk bs [.int .i64 b6, .int .i64 bd, .int .u64 ao, .int .i64 az, .slice ac aa ad, .slice b3 ba b9] 0 fun bm =>
 ∃ (ah ax a3 a9 : Int) (a4 : Option Addr) (a2 a7 : Nat) (ae : Option Addr) (ap ak : Nat), cellsAt bm bs [.int .i64 ah, .int .i64 ax, .int .u64 a3, .int .i64 a9, .slice a4 a2 a7, .slice ae ap ak] 0 ∧
 R (.tuple #[.agg #[.int .i64 ah, .int .i64 ax, .int .u64 a3, .int .i64 a9, .slice a4 a2 a7, .slice ae ap ak], .int .u64 bu, .int .i64 0]) bm) else (
 ∃ (bb be al aq : Int) (aj : Option Addr) (af an : Nat) (b7 : Option Addr) (b5 b4 : Nat), cellsAt bc bn [.int .i64 bb, .int .i64 be, .int .u64 al, .int .i64 aq, .slice aj af an, .slice b7 b5 b4] 0 ∧
 putsK bc bs [.int .i64 bb, .int .i64 be, .int .u64 al, .int .i64 aq, .slice aj af an, .slice b7 b5 b4] 0 fun bj =>
 ∃ (am b0 a5 a8 : Int) (a6 : Option Addr) (a0 a1 : Nat) (ab : Option Addr) (ag ai : Nat), cellsAt bj bs [.int .i64 am, .int .i64 b0, .int .u64 a5, .int .i64 a8, .slice a6 a0 a1, .slice ab ag ai] 0 ∧
 R (.tuple #[.agg #[.int .i64 am, .int .i64 b0, .int .u64 a5, .int .i64 a8, .slice a6 a0 a1, .slice ab ag ai], .int .u64 bu, .int .i64 0]) bj))

def Q0s.M (o1 av : Option Addr) (au aq : Nat) (ad aj : Int) (R : RW) (w : World) : Prop :=
 thenW (w.alloc (.cells #[.slice av au aq, .int .i64 ad] 46)) fun an =>
 thenW (an.alloc (.cells #[.int .i64 0, .int .i64 0, .int .u64 0, .int .i64 0, .slice none 0 0, .slice none 0 0] 67)) fun aw =>
 Calls Try.prog 51 #[.pointer o1] aw fun ax ap => ∃ (am : Int), ax = .returned (.int .u64 am) ∧
 thenW (ap.alloc (.cells #[.int .i64 0, .int .i64 0, .int .u64 0, .int .i64 0, .slice none 0 0, .slice none 0 0] 67)) fun ao =>
 putsK ao (blk ap.heap.size) [.int .i64 3, .int .i64 0, .int .u64 0, .int .i64 0, .slice none 0 0, .slice none 0 0] 0 fun ak =>
 ∃ (ae : Option Addr) (af ag : Nat) (aa : Int), cellsAt ak (blk w.heap.size) [.slice ae af ag, .int .i64 aa] 0 ∧
 Calls Try.prog 46 #[.agg #[.slice ae af ag, .int .i64 aa]] ak fun ar al => ∃ (ac : Option Addr) (ab ah : Nat), ar = .returned (.slice ac ab ah) ∧
 bif (ab : Int) == 0 then (
 putsK al (blk an.heap.size) [.int .i64 0, .int .i64 0, .int .u64 0, .int .i64 0, .slice none 0 0, .slice none 0 0] 0 fun ai =>
 ∃ (a7 a9 a1 a4 : Int) (a2 : Option Addr) (a0 a3 : Nat) (a8 : Option Addr) (a6 a5 : Nat), cellsAt ai (blk an.heap.size) [.int .i64 a7, .int .i64 a9, .int .u64 a1, .int .i64 a4, .slice a2 a0 a3, .slice a8 a6 a5] 0 ∧
 R (.tuple #[.agg #[.int .i64 a7, .int .i64 a9, .int .u64 a1, .int .i64 a4, .slice a2 a0 a3, .slice a8 a6 a5], .int .u64 0, .int .i64 10]) ai) else (
 Q0s.J3 ac ab (blk ap.heap.size) am (blk an.heap.size) (blk w.heap.size) o1 aj R al)

theorem Q0s.ok (o1 a2 : Option Addr) (a3 a4 : Nat) (a0 a1 : Int) {R : RW} {w : World} (h : Q0s.M o1 a2 a3 a4 a0 a1 R w) : Calls Try.prog 24 #[.pointer o1, .agg #[.slice a2 a3 a4, .int .i64 a0], .int .u64 a1] w fun e w' => ∃ v, e = .returned v ∧ R v w' :=
  Q0l follows (H := [(0, [0, 2, 4, 6, 9, 10, 11], [(12, (.one (.int .i64)))])]) (args := [.pointer o1, .agg #[.slice a2 a3 a4, .int .i64 a0], .int .u64 a1]) (cast (by kernel_rfl) h)

def Q0s.N (o1 c4 : Option Addr) (c3 bz : Nat) (a0 br : Int) (R : RW) (w : World) : Prop :=
 ∀ (bt : World) (p7 p8 : Nat), Ext no w bt → Priv w bt [p7, p8] →
 Calls Try.prog 51 #[.pointer o1] bt fun bx bg => ∃ (b1 : Int), bx = .returned (.int .u64 b1) ∧
 Keep [p7, p8] bt bg ∧
 ∀ (b9 : World) (b7 : Nat), Ext no bg b9 → Priv bg b9 [b7] →
 Calls Try.prog 46 #[.agg #[.slice c4 c3 bz, .int .i64 a0]] b9 fun c2 bf => ∃ (b3 : Option Addr) (a1 bh : Nat), c2 = .returned (.slice b3 a1 bh) ∧
 Keep [p7, p8, b7] b9 bf ∧
 ((a1 : Int) = 0 →
 ∀ (bo : World), Ext (fun b => b = p8) bf bo →
 R (.tuple #[.agg #[.int .i64 0, .int .i64 0, .int .u64 0, .int .i64 0, .slice none 0 0, .slice none 0 0], .int .u64 0, .int .i64 10]) bo) ∧
 ((a1 : Int) ≠ 0 →
 ∃ (I0 : Nat → List Value → World → Prop) (c7 : Nat), I0 c7 [.int .i64 0, .int .i64 0, .int .i64 0, .int .u64 0, .int .i64 0, .slice none 0 0, .slice none 0 0, .int .i64 3, .int .i64 0, .int .u64 0, .int .i64 0, .slice none 0 0, .slice none 0 0] bf ∧ ∀ (c5 : Nat) (an : World) (av aw ba ad ap : Int) (a9 : Option Addr) (ac af : Nat) (b6 : Option Addr) (ay ax : Nat) (a7 ar a2 a6 : Int) (a3 : Option Addr) (a5 a4 : Nat) (al : Option Addr) (am ak : Nat), I0 c5 [.int .i64 av, .int .i64 aw, .int .i64 ba, .int .u64 ad, .int .i64 ap, .slice a9 ac af, .slice b6 ay ax, .int .i64 a7, .int .i64 ar, .int .u64 a2, .int .i64 a6, .slice a3 a5 a4, .slice al am ak] an →
 (av < (a1 : Int) →
 ∃ c0 : Addr, b3 = some c0 ∧
 0 ≤ (av : Int) ∧ (av : Int) < (a1 : Int) ∧
 ∃ (ab : Int), an.cell? ((c0.add (Int.toNat av * 5)).add 1) = some (.int .u64 ab) ∧
 Calls Try.prog 52 #[.pointer o1, .int .u64 ab, .int .u64 b1] an fun bu b4 => ∃ (ao : Option Addr) (aq au : Nat) (a8 : Int), bu = .returned (.tuple #[.slice ao aq au, .int .i64 a8]) ∧
 Keep [p7, p8, b7] an b4 ∧
 (a8 ≠ 0 →
 ∀ (bi : World), Ext (fun b => b = p8) b4 bi →
 R (.tuple #[.agg #[.int .i64 0, .int .i64 0, .int .u64 0, .int .i64 0, .slice none 0 0, .slice none 0 0], .int .u64 0, .int .i64 a8]) bi) ∧
 (a8 = 0 →
 0 ≤ (av : Int) ∧ (av : Int) < (a1 : Int) ∧
 ∃ (bb : Int), b4.cell? ((c0.add (Int.toNat av * 5)).add 0) = some (.int .i64 bb) ∧
 ∀ (b2 : World) (bs : Nat), Ext no b4 b2 → Blk b2 bs 119 [.int .i64 bb, .slice ao aq au] → b4.heap.size ≤ bs → bs < b2.heap.size →
 ∃ (bq : Option Addr) (bm bj : Nat) (bc : World), (Builtin.append_ #[28, 28] 28 #[.slice a3 a5 a4, .slice (some (blk bs)) 1 1]).run Try.prog b2 = .ok (.slice bq bm bj) bc ∧
 Keep [p7, p8, b7] b2 bc ∧
 (-9223372036854775808 : Int) ≤ (av + 1) ∧ (av + 1) < 9223372036854775808 ∧
 ∀ (bn : World), Ext (fun b => b = b7) bc bn →
 ∃ c6, c6 < c5 ∧ I0 c6 [.int .i64 (av + 1), .int .i64 aw, .int .i64 ba, .int .u64 ad, .int .i64 ap, .slice a9 ac af, .slice b6 ay ax, .int .i64 a7, .int .i64 ar, .int .u64 a2, .int .i64 a6, .slice bq bm bj, .slice al am ak] bn)) ∧
 ((a1 : Int) ≤ av →
 (a0 ≠ (-1) →
 (-9223372036854775808 : Int) ≤ (a0 + 1) ∧ (a0 + 1) < 9223372036854775808 ∧
 Calls Try.prog 54 #[.int .u64 (IntKind.u64.wrap (a0 + 1))] an fun bv be => ∃ (az : Option Addr) (b5 b0 : Nat), bv = .returned (.slice az b5 b0) ∧
 Keep [p8, b7] an be ∧
 Calls Try.prog 55 #[.int .u64 br] be fun c1 bd => ∃ (ag : Option Addr) (ae aa : Nat), c1 = .returned (.slice ag ae aa) ∧
 Keep [p8, b7] be bd ∧
 Calls Try.prog 53 #[.pointer o1, .int .u64 b1, .slice az b5 b0, .slice ag ae aa] bd fun bw bl => ∃ (ai : Option Addr) (ah aj : Nat) (b8 : Int), bw = .returned (.tuple #[.slice ai ah aj, .int .i64 b8]) ∧
 Keep [p8, b7] bd bl ∧
 ∀ (bp : World), Ext (fun b => b = p8 ∨ b = b7) bl bp →
 R (.tuple #[.agg #[.int .i64 a7, .int .i64 ar, .int .u64 a2, .int .i64 a6, .slice a3 a5 a4, .slice ai ah aj], .int .u64 b1, .int .i64 0]) bp) ∧
 (a0 = (-1) →
 ∀ (bk : World), Ext (fun b => b = p8) an bk →
 R (.tuple #[.agg #[.int .i64 a7, .int .i64 ar, .int .u64 a2, .int .i64 a6, .slice a3 a5 a4, .slice al am ak], .int .u64 b1, .int .i64 0]) bk)))

theorem Q0s.up (o1 ba : Option Addr) (b7 b5 : Nat) (aj bc : Int) {R : RW} {w : World} (h : Q0s.N o1 ba b7 b5 aj bc R w) : Q0s.M o1 ba b7 b5 aj bc R w := by
  unfold Q0s.M
  unfold Q0s.N at h
  refine Q01 fun az e5 => ?_
  have al := Blk.of_new e5
  have dj := ((Ext.refl no w)).size
  have cw := (Ext.refl no w).x_alloc e5
  refine Q01 fun d7 e6 => ?_
  have a5 := Blk.of_new e6
  have d8 := (cw).size
  have cx := Nat.ne_of_lt al.lt
  have al := al.x_alloc e6
  have dn := cw.x_alloc e6
  have h := h d7 (w.heap.size) (az.heap.size) dn (Priv.cons dj al.lt (Priv.cons d8 a5.lt Priv.nil))
  refine h.mono fun db ak h => ?_
  obtain ⟨cd, he, hk, h⟩ := h
  refine ⟨cd, he, ?_⟩
  have al := hk.blk al (by simp)
  have a5 := hk.blk a5 (by simp)
  refine Q01 fun d1 c0 => ?_
  have a7 := Blk.of_new c0
  have cy := ((Ext.refl no ak)).size
  have bb := Nat.ne_of_lt al.lt
  have al := al.x_alloc c0
  have aw := Nat.ne_of_lt a5.lt
  have a5 := a5.x_alloc c0
  have cl := (Ext.refl no ak).x_alloc c0
  refine Q0g (k := 0) (j := 0) a7 (Nat.le_of_ble_eq_true rfl) fun bx c5 d5 => ?_
  have ce := cl.x_puts c5 (.inr cy)
  have al := al.x_puts c5 bb
  have a5 := a5.x_puts c5 aw
  have a7 : Blk bx ak.heap.size 67 [.int .i64 3, .int .i64 0, .int .u64 0, .int .i64 0, .slice none 0 0, .slice none 0 0] := d5
  refine ⟨ba, b7, b5, aj, ⟨al.celli 0 rfl rfl, al.celli 1 rfl rfl, trivial⟩, ?_⟩
  have h := h bx (ak.heap.size) ce (Priv.cons cy a7.lt Priv.nil)
  refine h.mono fun dh bn h => ?_
  obtain ⟨bi, bk, bo, he, hk, h⟩ := h
  refine ⟨bi, bk, bo, he, ?_⟩
  have al := hk.blk al (by simp)
  have a5 := hk.blk a5 (by simp)
  have a7 := hk.blk a7 (by simp)
  refine bif_of (fun c9 => ?_) (fun c9 => ?_)
  ·have h := h.1 (beq_t c9)
   have c8 : Ext (fun b => b = az.heap.size) bn bn := ((Ext.refl no bn)).none
   refine Q0g (k := 0) (j := 0) a5 (Nat.le_of_ble_eq_true rfl) fun bu d9 di => ?_
   have co := c8.x_puts d9 (.inl rfl)
   have a5 : Blk bu az.heap.size 67 [.int .i64 0, .int .i64 0, .int .u64 0, .int .i64 0, .slice none 0 0, .slice none 0 0] := di
   refine ⟨0, 0, 0, 0, none, 0, 0, none, 0, 0, ⟨a5.celli 0 rfl rfl, a5.celli 1 rfl rfl, a5.celli 2 rfl rfl, a5.celli 3 rfl rfl, a5.celli 4 rfl rfl, a5.celli 5 rfl rfl, trivial⟩, ?_⟩
   have h := h bu co
   exact h
  have h := h.2 (beq_f c9)
  unfold Q0s.J3
  obtain ⟨I0, dl, h0, h⟩ := h
  refine ⟨fun k vs ww => ∃ (an ar ae am : Int) (ac : Option Addr) (ad af : Nat) (aq : Option Addr) (ap ao : Nat) (a6 a8 a0 a4 : Int) (a1 : Option Addr) (a3 a2 : Nat) (aa : Option Addr) (ab a9 : Nat), Blk ww w.heap.size 46 [.slice ba b7 b5, .int .i64 aj] ∧ Blk ww az.heap.size 67 [.int .i64 an, .int .i64 ar, .int .u64 ae, .int .i64 am, .slice ac ad af, .slice aq ap ao] ∧ Blk ww ak.heap.size 67 [.int .i64 a6, .int .i64 a8, .int .u64 a0, .int .i64 a4, .slice a1 a3 a2, .slice aa ab a9] ∧ I0 k (vs ++ [.int .i64 an, .int .i64 ar, .int .u64 ae, .int .i64 am, .slice ac ad af, .slice aq ap ao, .int .i64 a6, .int .i64 a8, .int .u64 a0, .int .i64 a4, .slice a1 a3 a2, .slice aa ab a9]) ww, dl, ⟨0, 0, 0, 0, none, 0, 0, none, 0, 0, 3, 0, 0, 0, none, 0, 0, none, 0, 0, al, a5, a7, h0⟩, fun d4 b8 dk hI => ?_⟩
  obtain ⟨an, ar, ae, am, ac, ad, af, aq, ap, ao, a6, a8, a0, a4, a1, a3, a2, aa, ab, a9, al, a5, a7, hI⟩ := hI
  have h := h d4 b8 dk an ar ae am ac ad af aq ap ao a6 a8 a0 a4 a1 a3 a2 aa ab a9 hI
  refine bif_fo (fun cb => ?_) (fun cb => ?_)
  ·have h := h.2 (Int.not_lt.1 (of_decide_eq_false cb))
   refine ⟨aj, al.celli 1 rfl rfl, ?_⟩
   refine bif_fo (fun c7 => ?_) (fun c7 => ?_)
   ·have h := h.2 (bne_f c7)
    refine ⟨a6, a8, a0, a4, a1, a3, a2, aa, ab, a9, ⟨a7.celli 0 rfl rfl, a7.celli 1 rfl rfl, a7.celli 2 rfl rfl, a7.celli 3 rfl rfl, a7.celli 4 rfl rfl, a7.celli 5 rfl rfl, trivial⟩, ?_⟩
    have cn : Ext (fun b => b = az.heap.size) b8 b8 := ((Ext.refl no b8)).none
    refine Q0g (k := 0) (j := 0) a5 (Nat.le_of_ble_eq_true rfl) fun br dm dp => ?_
    have c6 := cn.x_puts dm (.inl rfl)
    have a5 : Blk br az.heap.size 67 [.int .i64 a6, .int .i64 a8, .int .u64 a0, .int .i64 a4, .slice a1 a3 a2, .slice aa ab a9] := dp
    refine ⟨a6, a8, a0, a4, a1, a3, a2, aa, ab, a9, ⟨a5.celli 0 rfl rfl, a5.celli 1 rfl rfl, a5.celli 2 rfl rfl, a5.celli 3 rfl rfl, a5.celli 4 rfl rfl, a5.celli 5 rfl rfl, trivial⟩, ?_⟩
    have h := h br c6
    exact h
   have h := h.1 (bne_t c7)
   refine ⟨aj, al.celli 1 rfl rfl, ?_⟩
   obtain ⟨cq, cc, h⟩ := h
   try rw [w64 cq cc]
   refine h.mono fun d0 dc h => ?_
   obtain ⟨bf, bm, bg, he, hk, h⟩ := h
   refine ⟨bf, bm, bg, he, ?_⟩
   have a5 := hk.blk a5 (by simp)
   have a7 := hk.blk a7 (by simp)
   refine h.mono fun de d2 h => ?_
   obtain ⟨ay, ax, au, he, hk, h⟩ := h
   refine ⟨ay, ax, au, he, ?_⟩
   have a5 := hk.blk a5 (by simp)
   have a7 := hk.blk a7 (by simp)
   refine h.mono fun da b1 h => ?_
   obtain ⟨ah, ag, ai, b4, he, hk, h⟩ := h
   refine ⟨ah, ag, ai, b4, he, ?_⟩
   have a5 := hk.blk a5 (by simp)
   have a7 := hk.blk a7 (by simp)
   have ck : Ext (fun b => b = ak.heap.size) b1 b1 := ((Ext.refl no b1)).none
   refine ⟨a7.cani 5 rfl rfl, Q01 fun bt cp => ?_⟩
   have c4 := ck.x_set (q := ak.heap.size) (i := 5) rfl (.inl rfl) cp
   have a5 := a5.oth (q := ak.heap.size) (i := 5) rfl aw cp
   have a7 : Blk bt ak.heap.size 67 [.int .i64 a6, .int .i64 a8, .int .u64 a0, .int .i64 a4, .slice a1 a3 a2, .slice ah ag ai] := a7.seti 5 rfl cp
   refine ⟨a6, a8, a0, a4, a1, a3, a2, ah, ag, ai, ⟨a7.celli 0 rfl rfl, a7.celli 1 rfl rfl, a7.celli 2 rfl rfl, a7.celli 3 rfl rfl, a7.celli 4 rfl rfl, a7.celli 5 rfl rfl, trivial⟩, ?_⟩
   have ca : Ext (fun b => b = az.heap.size ∨ b = ak.heap.size) b1 bt := (c4).mono fun _ h _ => .inr h
   refine Q0g (k := 0) (j := 0) a5 (Nat.le_of_ble_eq_true rfl) fun bv dg dd => ?_
   have c3 := ca.x_puts dg (.inl (.inl rfl))
   have a5 : Blk bv az.heap.size 67 [.int .i64 a6, .int .i64 a8, .int .u64 a0, .int .i64 a4, .slice a1 a3 a2, .slice ah ag ai] := dd
   refine ⟨a6, a8, a0, a4, a1, a3, a2, ah, ag, ai, ⟨a5.celli 0 rfl rfl, a5.celli 1 rfl rfl, a5.celli 2 rfl rfl, a5.celli 3 rfl rfl, a5.celli 4 rfl rfl, a5.celli 5 rfl rfl, trivial⟩, ?_⟩
   have h := h bv c3
   exact h
  have h := h.1 (of_decide_eq_true cb)
  unfold Q0s.J2
  obtain ⟨dq, bw, h⟩ := h
  refine Q03 bw ?_
  obtain ⟨cg, cs, h⟩ := h
  refine ⟨cg, cs, ?_⟩
  obtain ⟨av, cu, h⟩ := h
  refine ⟨av, cu, ?_⟩
  refine h.mono fun cz b6 h => ?_
  obtain ⟨b2, b3, b9, bh, he, hk, h⟩ := h
  refine ⟨b2, b3, b9, bh, he, ?_⟩
  have al := hk.blk al (by simp)
  have a5 := hk.blk a5 (by simp)
  have a7 := hk.blk a7 (by simp)
  refine bif_of (fun cv => ?_) (fun cv => ?_)
  ·have h := h.1 (bne_t cv)
   have ch : Ext (fun b => b = az.heap.size) b6 b6 := ((Ext.refl no b6)).none
   refine Q0g (k := 0) (j := 0) a5 (Nat.le_of_ble_eq_true rfl) fun bq d3 df => ?_
   have cm := ch.x_puts d3 (.inl rfl)
   have a5 : Blk bq az.heap.size 67 [.int .i64 0, .int .i64 0, .int .u64 0, .int .i64 0, .slice none 0 0, .slice none 0 0] := df
   refine ⟨0, 0, 0, 0, none, 0, 0, none, 0, 0, ⟨a5.celli 0 rfl rfl, a5.celli 1 rfl rfl, a5.celli 2 rfl rfl, a5.celli 3 rfl rfl, a5.celli 4 rfl rfl, a5.celli 5 rfl rfl, trivial⟩, ?_⟩
   have h := h bq cm
   exact h
  have h := h.2 (bne_f cv)
  unfold Q0s.J1
  refine Q01 fun ci c1 => ?_
  have bj := (Ext.refl no b6).x_drew c1
  have al := al.x_drew c1
  have a5 := a5.x_drew c1
  have a7 := a7.x_drew c1
  refine ⟨a1, a3, a2, a7.celli 4 rfl rfl, ?_⟩
  refine Q03 bw ?_
  obtain ⟨cg, cs, h⟩ := h
  refine ⟨cg, cs, ?_⟩
  obtain ⟨bz, cr, h⟩ := h
  refine ⟨bz, (bj).cell cr id, ?_⟩
  refine Q01 fun cf bp => ?_
  have al := al.x_alloc bp
  have a5 := a5.x_alloc bp
  have a7 := a7.x_alloc bp
  have h := h cf ci.heap.size (bj.x_alloc bp) (Blk.of_new bp) (bj).size (Q0w bp)
  refine ⟨a7.celli 4 rfl rfl, ?_⟩
  obtain ⟨bl, be, bd, b0, hr, hk, h⟩ := h
  refine ⟨bl, be, bd, b0, hr, ?_⟩
  have al := hk.blk al (by simp)
  have a5 := hk.blk a5 (by simp)
  have a7 := hk.blk a7 (by simp)
  have ct : Ext (fun b => b = ak.heap.size) b0 b0 := ((Ext.refl no b0)).none
  refine ⟨a7.cani 4 rfl rfl, Q01 fun bs c2 => ?_⟩
  have cj := ct.x_set (q := ak.heap.size) (i := 4) rfl (.inl rfl) c2
  have al := al.oth (q := ak.heap.size) (i := 4) rfl bb c2
  have a5 := a5.oth (q := ak.heap.size) (i := 4) rfl aw c2
  have a7 : Blk bs ak.heap.size 67 [.int .i64 a6, .int .i64 a8, .int .u64 a0, .int .i64 a4, .slice bl be bd, .slice aa ab a9] := a7.seti 4 rfl c2
  obtain ⟨cq, cc, h⟩ := h
  try rw [w64 cq cc]
  have h := h bs cj
  obtain ⟨d6, hk, h⟩ := h
  exact ⟨d6, hk, an, ar, ae, am, ac, ad, af, aq, ap, ao, a6, a8, a0, a4, bl, be, bd, aa, ab, a9, al, a5, a7, h⟩

theorem Q0s.go (o1 a2 : Option Addr) (a3 a4 : Nat) (a0 a1 : Int) {R : RW} {w : World} (h : Q0s.N o1 a2 a3 a4 a0 a1 R w) : Calls Try.prog 24 #[.pointer o1, .agg #[.slice a2 a3 a4, .int .i64 a0], .int .u64 a1] w fun e w' => ∃ v, e = .returned v ∧ R v w' := Q0s.ok o1 a2 a3 a4 a0 a1 (Q0s.up o1 a2 a3 a4 a0 a1 h)
abbrev Q0c.J1 (a0 : Int) (I2 : Nat → List Value → World → Prop) (b0 : Int) (ar bc : Option Addr) (bb : Nat) (R : RW) (b2 : World) : Prop :=
 thenW (b2.drew) fun ab =>
 ar.elim False fun b4 =>
 ∃ (a5 : Option Addr) (a4 a9 : Nat), ab.cell? (b4.add 2) = some (.slice a5 a4 a9) ∧
 a5.elim False fun ay =>
 0 ≤ (a0 : Int) ∧ (a0 : Int) < (a4 : Int) ∧
 ∃ (ap : Int), ab.cell? (ay.add (Int.toNat a0 * 1)) = some (.int .u64 ap) ∧
 ar.elim False fun aw =>
 ∃ (a3 : Option Addr) (a2 aa : Nat), ab.cell? (aw.add 3) = some (.slice a3 a2 aa) ∧
 a3.elim False fun b6 =>
 0 ≤ (a0 : Int) ∧ (a0 : Int) < (a2 : Int) ∧
 ∃ (ao : Option Addr) (am al : Nat), ab.cell? (b6.add (Int.toNat a0 * 1)) = some (.slice ao am al) ∧
 Calls Try.prog 54 #[.int .u64 (IntKind.u64.wrap a0)] ab fun b5 ae => ∃ (ag : Option Addr) (ah af : Nat), b5 = .returned (.slice ag ah af) ∧
 ae.cell? (b6.add (Int.toNat a0 * 1)) = some (.slice ao am al) ∧
 ae.cell? (aw.add 3) = some (.slice a3 a2 aa) ∧
 ae.cell? (ay.add (Int.toNat a0 * 1)) = some (.int .u64 ap) ∧
 ae.cell? (b4.add 2) = some (.slice a5 a4 a9) ∧
 Calls Try.prog 58 #[.pointer bc, .int .u64 ap, .slice ag ah af, .slice ao am al] ae fun av an => ∃ (a6 : Option Addr) (a1 ai : Nat) (ad : Int), av = .returned (.tuple #[.slice a6 a1 ai, .int .i64 ad]) ∧
 bif ad != 0 then (
 R (.int .i64 b0) an) else (
 bif (a1 : Int) != 8 then (
 R (.int .i64 b0) an) else (
 ∃ (I4 : Nat → List Value → World → Prop) (ba : Nat), I4 ba [.int .u64 0, .int .i64 0] an ∧ ∀ (b7 : Nat) (a7 : World) (aq aj : Int), I4 b7 [.int .u64 aq, .int .i64 aj] a7 →
 bif decide (aj < 8) then (
 a6.elim False fun b9 =>
 0 ≤ (aj : Int) ∧ (aj : Int) < (a1 : Int) ∧
 ∃ (b1 : Int), a7.cell? (b9.add (Int.toNat aj * 1)) = some (.int .u8 b1) ∧
 ∃ au, au < b7 ∧ I4 au [.int .u64 (IntKind.u64.wrap ((IntKind.u64.wrap (aq * 256)) + (IntKind.u64.wrap b1))), .int .i64 (IntKind.i64.wrap (aj + 1))] a7) else (
 ar.elim False fun b8 =>
 ∃ (ac : Option Addr) (a8 ak : Nat), a7.cell? (b8.add 2) = some (.slice ac a8 ak) ∧
 ac.elim False fun b3 =>
 0 ≤ ((IntKind.i64.wrap (a0 - 1)) : Int) ∧ ((IntKind.i64.wrap (a0 - 1)) : Int) < (a8 : Int) ∧
 Q07 a7 ((b3.add (Int.toNat (IntKind.i64.wrap (a0 - 1)) * 1)).add 0) ∧
 thenW (a7.setCell ((b3.add (Int.toNat (IntKind.i64.wrap (a0 - 1)) * 1)).add 0) (.int .u64 aq)) fun az =>
 ∃ ax, ax < bb ∧ I2 ax [.int .i64 (IntKind.i64.wrap (a0 - 1))] az)))

abbrev Q0c.J2 (ac : Int) (ab an : Option Addr) (R : RW) (ad : World) : Prop :=
 ab.elim False fun al =>
 ∃ (aa : Option Addr) (a5 a9 : Nat), ad.cell? (al.add 2) = some (.slice aa a5 a9) ∧
 ∃ (I2 : Nat → List Value → World → Prop) (aj : Nat), I2 aj [.int .i64 (IntKind.i64.wrap ((a5 : Int) - 1))] ad ∧ ∀ (af : Nat) (a1 : World) (a0 : Int), I2 af [.int .i64 a0] a1 →
 bif decide (a0 > 0) then (
 ab.elim False fun ah =>
 ∃ (a3 : Option Addr) (a6 a7 : Nat), a1.cell? (ah.add 2) = some (.slice a3 a6 a7) ∧
 a3.elim False fun ai =>
 0 ≤ (a0 : Int) ∧ (a0 : Int) < (a6 : Int) ∧
 ∃ (ag : Int), a1.cell? (ai.add (Int.toNat a0 * 1)) = some (.int .u64 ag) ∧
 bif ag != 0 then (
 ab.elim False fun am =>
 ∃ (a4 : Option Addr) (a2 a8 : Nat), a1.cell? (am.add 2) = some (.slice a4 a2 a8) ∧
 a4.elim False fun ak =>
 0 ≤ ((IntKind.i64.wrap (a0 - 1)) : Int) ∧ ((IntKind.i64.wrap (a0 - 1)) : Int) < (a2 : Int) ∧
 ∃ (ae : Int), a1.cell? (ak.add (Int.toNat (IntKind.i64.wrap (a0 - 1)) * 1)) = some (.int .u64 ae) ∧
 bif ae == 0 then (
 Q0c.J1 a0 I2 ac ab an af R a1) else (
 R (.int .i64 ac) a1)) else (
 R (.int .i64 ac) a1)) else (
 R (.int .i64 ac) a1)

abbrev Q0c.J3 (bi : Addr) (b7 br : Option Addr) (R : RW) (bn : World) : Prop :=
 ∃ (I0 : Nat → List Value → World → Prop) (bs : Nat), I0 bs [.int .u64 0, .int .i64 11, .int .i64 0] bn ∧ ∀ (bp : Nat) (aj : World) (ao bl aw : Int), I0 bp [.int .u64 ao, .int .i64 bl, .int .i64 aw] aj →
 ∃ (ar : Option Addr) (ac au : Nat), aj.cell? (bi.add 4) = some (.slice ar ac au) ∧
 bif decide (aw < (ac : Int)) then (
 thenW (aj.drew) fun av =>
 ∃ (a9 : Option Addr) (a4 al : Nat), av.cell? (bi.add 4) = some (.slice a9 a4 al) ∧
 a9.elim False fun bk =>
 0 ≤ (aw : Int) ∧ (aw : Int) < (a4 : Int) ∧
 ∃ (aq : Int), av.cell? ((bk.add (Int.toNat aw * 2)).add 0) = some (.int .i64 aq) ∧
 b7.elim False fun bm =>
 ∃ (ap : Int), av.cell? (bm.add 0) = some (.int .i64 ap) ∧
 bif aq == ap then (
 thenW (av.drew) fun ae =>
 b7.elim False fun bj =>
 ∃ (a5 : Int), ae.cell? (bj.add 1) = some (.int .u64 a5) ∧
 ∃ (a3 : Option Addr) (a7 ak : Nat), ae.cell? (bi.add 4) = some (.slice a3 a7 ak) ∧
 a3.elim False fun bo =>
 0 ≤ (aw : Int) ∧ (aw : Int) < (a7 : Int) ∧
 ∃ (b0 : Option Addr) (b2 ax : Nat), ae.cell? ((bo.add (Int.toNat aw * 2)).add 1) = some (.slice b0 b2 ax) ∧
 Calls Try.prog 57 #[.pointer br, .int .u64 a5, .slice b0 b2 ax] ae fun bb bd => ∃ (a8 a6 : Int), bb = .returned (.tuple #[.int .u64 a8, .int .i64 a6]) ∧
 ∃ bh, bh < bp ∧ I0 bh [.int .u64 a8, .int .i64 a6, .int .i64 (IntKind.i64.wrap (aw + 1))] bd) else (
 ∃ be, be < bp ∧ I0 be [.int .u64 ao, .int .i64 bl, .int .i64 (IntKind.i64.wrap (aw + 1))] av)) else (
 b7.elim False fun bq =>
 ∃ (ad : Option Addr) (ab aa : Nat), aj.cell? (bq.add 2) = some (.slice ad ab aa) ∧
 thenW (aj.alloc (.cells #[.int .u64 ao] 27)) fun ba =>
 ∃ (b1 : Option Addr) (b5 b4 : Nat) (an : World), (Builtin.append_ #[22, 22] 22 #[.slice ad ab aa, .slice (some (blk aj.heap.size)) 1 1]).run Try.prog ba = .ok (.slice b1 b5 b4) an ∧
 b7.elim False fun bf =>
 Q07 an ((bf.add 2).add 0) ∧
 thenW (an.setCell ((bf.add 2).add 0) (.slice b1 b5 b4)) fun b8 =>
 thenW (b8.drew) fun ag =>
 b7.elim False fun bg =>
 ∃ (a2 : Option Addr) (a0 a1 : Nat), ag.cell? (bg.add 3) = some (.slice a2 a0 a1) ∧
 ∃ (af : Option Addr) (ah ai : Nat), ag.cell? (bi.add 5) = some (.slice af ah ai) ∧
 thenW (ag.alloc (.cells #[.slice af ah ai] 29)) fun az =>
 az.cell? (bg.add 3) = some (.slice a2 a0 a1) ∧
 ∃ (b3 : Option Addr) (ay b6 : Nat) (am : World), (Builtin.append_ #[83, 83] 83 #[.slice a2 a0 a1, .slice (some (blk ag.heap.size)) 1 1]).run Try.prog az = .ok (.slice b3 ay b6) am ∧
 b7.elim False fun b9 =>
 Q07 am ((b9.add 3).add 0) ∧
 thenW (am.setCell ((b9.add 3).add 0) (.slice b3 ay b6)) fun bc =>
 Q0c.J2 bl b7 br R bc)

abbrev Q0c.J4 (a5 : Addr) (a4 a6 : Option Addr) (R : RW) (a3 : World) : Prop :=
 a4.elim False fun a7 =>
 ∃ (a1 : Option Addr) (a0 a2 : Nat), a3.cell? (a7.add 2) = some (.slice a1 a0 a2) ∧
 bif decide ((a0 : Int) ≥ 20) then (
 R (.int .i64 3) a3) else (
 Q0c.J3 a5 a4 a6 R a3)

def Q0c.M (r1 o2 : Option Addr) (ai am aa ah : Int) (ab : Option Addr) (ae ad : Nat) (al : Option Addr) (aj ak : Nat) (R : RW) (w : World) : Prop :=
 thenW (w.alloc (.cells #[.int .i64 ai, .int .i64 am, .int .u64 aa, .int .i64 ah, .slice ab ae ad, .slice al aj ak] 67)) fun ao =>
 ∃ (a6 ac a1 a4 : Int) (a0 : Option Addr) (a3 a2 : Nat) (a5 : Option Addr) (a7 a8 : Nat), cellsAt ao (blk w.heap.size) [.int .i64 a6, .int .i64 ac, .int .u64 a1, .int .i64 a4, .slice a0 a3 a2, .slice a5 a7 a8] 0 ∧
 Calls Try.prog 43 #[.agg #[.int .i64 a6, .int .i64 ac, .int .u64 a1, .int .i64 a4, .slice a0 a3 a2, .slice a5 a7 a8]] ao fun an ag => ∃ (a9 : Bool), an = .returned (.bool a9) ∧
 bif !a9 then (
 R (.int .i64 1) ag) else (
 ∃ (af : Int), ag.cell? ((blk w.heap.size).add 0) = some (.int .i64 af) ∧
 bif af != 3 then (
 R (.int .i64 1) ag) else (
 Q0c.J4 (blk w.heap.size) r1 o2 R ag))

theorem Q0c.ok (r1 o2 : Option Addr) (a6 a9 a0 a4 : Int) (a1 : Option Addr) (a3 a2 : Nat) (a7 : Option Addr) (a8 a5 : Nat) {R : RW} {w : World} (h : Q0c.M r1 o2 a6 a9 a0 a4 a1 a3 a2 a7 a8 a5 R w) : Calls Try.prog 27 #[.pointer r1, .pointer o2, .agg #[.int .i64 a6, .int .i64 a9, .int .u64 a0, .int .i64 a4, .slice a1 a3 a2, .slice a7 a8 a5]] w fun e w' => ∃ v, e = .returned v ∧ R v w' :=
  Q0l follows (H := [(0, [0, 1, 5], [(7, (.one (.int .u64))), (8, (.one (.int .i64))), (9, (.one (.int .i64)))]), (2, [0, 1, 8], [(10, (.one (.int .i64)))]), (4, [0, 1, 8, 10, 11], [(13, (.one (.int .u64))), (14, (.one (.int .i64)))])]) (args := [.pointer r1, .pointer o2, .agg #[.int .i64 a6, .int .i64 a9, .int .u64 a0, .int .i64 a4, .slice a1 a3 a2, .slice a7 a8 a5]]) (cast (by kernel_rfl) h)

def Q0c.N (r1 o2 : Option Addr) (aq c3 be bm : Int) (an : Option Addr) (a1 bg : Nat) (b5 : Option Addr) (bh ba : Nat) (R : RW) (w : World) : Prop :=
 ∀ (cr : World) (cb : Nat), Ext no w cr → Priv w cr [cb] →
 Calls Try.prog 43 #[.agg #[.int .i64 aq, .int .i64 c3, .int .u64 be, .int .i64 bm, .slice an a1 bg, .slice b5 bh ba]] cr fun cw b3 => ∃ (ai : Bool), cw = .returned (.bool ai) ∧
 Keep [cb] cr b3 ∧
 (ai = false →
 R (.int .i64 1) b3) ∧
 (ai = true →
 (aq ≠ 3 →
 R (.int .i64 1) b3) ∧
 (aq = 3 →
 ∃ a7 : Addr, r1 = some a7 ∧
 ∃ (bl : Option Addr) (ad br : Nat), b3.cell? (a7.add 2) = some (.slice bl ad br) ∧
 ((ad : Int) ≥ 20 →
 R (.int .i64 3) b3) ∧
 ((ad : Int) < 20 →
 ∃ (I0 : Nat → List Value → World → Prop) (d9 : Nat), I0 d9 [.int .u64 0, .int .i64 11, .int .i64 0] b3 ∧ ∀ (ct : Nat) (a5 : World) (bb bx ar : Int), I0 ct [.int .u64 bb, .int .i64 bx, .int .i64 ar] a5 →
 (ar < (a1 : Int) →
 ∃ cu : Addr, an = some cu ∧
 0 ≤ (ar : Int) ∧ (ar : Int) < (a1 : Int) ∧
 ∃ (bk : Int), a5.cell? ((cu.add (Int.toNat ar * 2)).add 0) = some (.int .i64 bk) ∧
 ∃ (bf : Int), a5.cell? (a7.add 0) = some (.int .i64 bf) ∧
 (bk = bf →
 ∃ (am : Int), a5.cell? (a7.add 1) = some (.int .u64 am) ∧
 0 ≤ (ar : Int) ∧ (ar : Int) < (a1 : Int) ∧
 ∃ (cg : Option Addr) (ca c5 : Nat), a5.cell? ((cu.add (Int.toNat ar * 2)).add 1) = some (.slice cg ca c5) ∧
 ∀ (c0 : World), Ext no a5 c0 →
 Calls Try.prog 57 #[.pointer o2, .int .u64 am, .slice cg ca c5] c0 fun cv c4 => ∃ (ap aj : Int), cv = .returned (.tuple #[.int .u64 ap, .int .i64 aj]) ∧
 Keep [cb] c0 c4 ∧
 (-9223372036854775808 : Int) ≤ (ar + 1) ∧ (ar + 1) < 9223372036854775808 ∧
 ∃ d5, d5 < ct ∧ I0 d5 [.int .u64 ap, .int .i64 aj, .int .i64 (ar + 1)] c4) ∧
 (bk ≠ bf →
 (-9223372036854775808 : Int) ≤ (ar + 1) ∧ (ar + 1) < 9223372036854775808 ∧
 ∀ (cm : World), Ext no a5 cm →
 ∃ d4, d4 < ct ∧ I0 d4 [.int .u64 bb, .int .i64 bx, .int .i64 (ar + 1)] cm)) ∧
 ((a1 : Int) ≤ ar →
 ∃ (ax : Option Addr) (b2 b0 : Nat), a5.cell? (a7.add 2) = some (.slice ax b2 b0) ∧
 ∀ (bd : World) (cq : Nat), Ext no a5 bd → Blk bd cq 27 [.int .u64 bb] → a5.heap.size ≤ cq → cq < bd.heap.size →
 ∃ (ce : Option Addr) (cj co : Nat) (bp : World), (Builtin.append_ #[22, 22] 22 #[.slice ax b2 b0, .slice (some (blk cq)) 1 1]).run Try.prog bd = .ok (.slice ce cj co) bp ∧
 Keep [cb] bd bp ∧
 Q07 bp ((a7.add 2).add 0) ∧
 (∀ p ∈ [cb], p ≠ Addr.block (a7.add 2)) ∧
 thenW (bp.setCell ((a7.add 2).add 0) (.slice ce cj co)) fun bz =>
 ∃ (ac : Option Addr) (ab a8 : Nat), bz.cell? (a7.add 3) = some (.slice ac ab a8) ∧
 ∀ (b7 : World) (cp : Nat), Ext no bz b7 → Blk b7 cp 29 [.slice b5 bh ba] → bz.heap.size ≤ cp → cp < b7.heap.size →
 b7.cell? (a7.add 3) = some (.slice ac ab a8) ∧
 ∃ (cn : Option Addr) (ci c6 : Nat) (c1 : World), (Builtin.append_ #[83, 83] 83 #[.slice ac ab a8, .slice (some (blk cp)) 1 1]).run Try.prog b7 = .ok (.slice cn ci c6) c1 ∧
 Q07 c1 ((a7.add 3).add 0) ∧
 thenW (c1.setCell ((a7.add 3).add 0) (.slice cn ci c6)) fun cf =>
 ∃ (bq : Option Addr) (a4 bn : Nat), cf.cell? (a7.add 2) = some (.slice bq a4 bn) ∧
 (-9223372036854775808 : Int) ≤ ((a4 : Int) - 1) ∧ ((a4 : Int) - 1) < 9223372036854775808 ∧
 ∃ (I2 : Nat → List Value → World → Prop) (d8 : Nat), I2 d8 [.int .i64 ((a4 : Int) - 1)] cf ∧ ∀ (d6 : Nat) (a3 : World) (a0 : Int), I2 d6 [.int .i64 a0] a3 →
 (a0 > 0 →
 ∃ (ay : Option Addr) (av bs : Nat), a3.cell? (a7.add 2) = some (.slice ay av bs) ∧
 ∃ d3 : Addr, ay = some d3 ∧
 0 ≤ (a0 : Int) ∧ (a0 : Int) < (av : Int) ∧
 ∃ (cy : Int), a3.cell? (d3.add (Int.toNat a0 * 1)) = some (.int .u64 cy) ∧
 (cy ≠ 0 →
 ∃ (au : Option Addr) (aw bo : Nat), a3.cell? (a7.add 2) = some (.slice au aw bo) ∧
 (-9223372036854775808 : Int) ≤ (a0 - 1) ∧ (a0 - 1) < 9223372036854775808 ∧
 ∃ d7 : Addr, au = some d7 ∧
 0 ≤ ((a0 - 1) : Int) ∧ ((a0 - 1) : Int) < (aw : Int) ∧
 ∃ (cx : Int), a3.cell? (d7.add (Int.toNat (a0 - 1) * 1)) = some (.int .u64 cx) ∧
 (cx = 0 →
 ∃ (ae : Option Addr) (af az : Nat), a3.cell? (a7.add 2) = some (.slice ae af az) ∧
 ∃ cs : Addr, ae = some cs ∧
 0 ≤ (a0 : Int) ∧ (a0 : Int) < (af : Int) ∧
 ∃ (d2 : Int), a3.cell? (cs.add (Int.toNat a0 * 1)) = some (.int .u64 d2) ∧
 ∃ (aa : Option Addr) (ah b1 : Nat), a3.cell? (a7.add 3) = some (.slice aa ah b1) ∧
 ∃ cz : Addr, aa = some cz ∧
 0 ≤ (a0 : Int) ∧ (a0 : Int) < (ah : Int) ∧
 ∃ (bv : Option Addr) (bw bu : Nat), a3.cell? (cz.add (Int.toNat a0 * 1)) = some (.slice bv bw bu) ∧
 ∀ (c9 : World), Ext no a3 c9 →
 Calls Try.prog 54 #[.int .u64 (IntKind.u64.wrap a0)] c9 fun d0 b6 => ∃ (b9 : Option Addr) (bi bc : Nat), d0 = .returned (.slice b9 bi bc) ∧
 b6.cell? (cz.add (Int.toNat a0 * 1)) = some (.slice bv bw bu) ∧
 b6.cell? (a7.add 3) = some (.slice aa ah b1) ∧
 b6.cell? (cs.add (Int.toNat a0 * 1)) = some (.int .u64 d2) ∧
 b6.cell? (a7.add 2) = some (.slice ae af az) ∧
 Calls Try.prog 58 #[.pointer o2, .int .u64 d2, .slice b9 bi bc, .slice bv bw bu] b6 fun cl bj => ∃ (ao : Option Addr) (a2 b8 : Nat) (ag : Int), cl = .returned (.tuple #[.slice ao a2 b8, .int .i64 ag]) ∧
 (ag ≠ 0 →
 R (.int .i64 bx) bj) ∧
 (ag = 0 →
 ((a2 : Int) ≠ 8 →
 R (.int .i64 bx) bj) ∧
 ((a2 : Int) = 8 →
 ∃ (I4 : Nat → List Value → World → Prop) (d1 : Nat), I4 d1 [.int .u64 0, .int .i64 0] bj ∧ ∀ (cc : Nat) (a6 : World) (bt a9 : Int), I4 cc [.int .u64 bt, .int .i64 a9] a6 →
 (a9 < 8 →
 ∃ ck : Addr, ao = some ck ∧
 0 ≤ (a9 : Int) ∧ (a9 : Int) < (a2 : Int) ∧
 ∃ (cd : Int), a6.cell? (ck.add (Int.toNat a9 * 1)) = some (.int .u8 cd) ∧
 (-9223372036854775808 : Int) ≤ (a9 + 1) ∧ (a9 + 1) < 9223372036854775808 ∧
 ∃ c7, c7 < cc ∧ I4 c7 [.int .u64 (IntKind.u64.wrap ((IntKind.u64.wrap (bt * 256)) + (IntKind.u64.wrap cd))), .int .i64 (a9 + 1)] a6) ∧
 ((8 : Int) ≤ a9 →
 ∃ (ak : Option Addr) (al b4 : Nat), a6.cell? (a7.add 2) = some (.slice ak al b4) ∧
 (-9223372036854775808 : Int) ≤ (a0 - 1) ∧ (a0 - 1) < 9223372036854775808 ∧
 ∃ c2 : Addr, ak = some c2 ∧
 0 ≤ ((a0 - 1) : Int) ∧ ((a0 - 1) : Int) < (al : Int) ∧
 Q07 a6 ((c2.add (Int.toNat (a0 - 1) * 1)).add 0) ∧
 thenW (a6.setCell ((c2.add (Int.toNat (a0 - 1) * 1)).add 0) (.int .u64 bt)) fun c8 =>
 (-9223372036854775808 : Int) ≤ (a0 - 1) ∧ (a0 - 1) < 9223372036854775808 ∧
 ∃ ch, ch < d6 ∧ I2 ch [.int .i64 (a0 - 1)] c8)))) ∧
 (cx ≠ 0 →
 R (.int .i64 bx) a3)) ∧
 (cy = 0 →
 R (.int .i64 bx) a3)) ∧
 (a0 ≤ 0 →
 R (.int .i64 bx) a3)))))

theorem Q0c.up (r1 o2 : Option Addr) (a7 ad a4 a6 : Int) (a1 : Option Addr) (a0 a2 : Nat) (a8 : Option Addr) (aa a9 : Nat) {R : RW} {w : World} (h : Q0c.N r1 o2 a7 ad a4 a6 a1 a0 a2 a8 aa a9 R w) : Q0c.M r1 o2 a7 ad a4 a6 a1 a0 a2 a8 aa a9 R w := by
  unfold Q0c.M
  unfold Q0c.N at h
  refine Q01 fun er e9 => ?_
  have a3 := Blk.of_new e9
  have em := ((Ext.refl no w)).size
  have e5 := (Ext.refl no w).x_alloc e9
  refine ⟨a7, ad, a4, a6, a1, a0, a2, a8, aa, a9, ⟨a3.celli 0 rfl rfl, a3.celli 1 rfl rfl, a3.celli 2 rfl rfl, a3.celli 3 rfl rfl, a3.celli 4 rfl rfl, a3.celli 5 rfl rfl, trivial⟩, ?_⟩
  have h := h er (w.heap.size) e5 (Priv.cons em a3.lt Priv.nil)
  refine h.mono fun ee en h => ?_
  obtain ⟨bj, he, hk, h⟩ := h
  refine ⟨bj, he, ?_⟩
  have a3 := hk.blk a3 (by simp)
  refine bif_of (fun di => ?_) (fun di => ?_)
  ·have h := h.1 (not_t di)
   exact h
  have h := h.2 (not_f di)
  refine ⟨a7, a3.celli 0 rfl rfl, ?_⟩
  refine bif_of (fun cy => ?_) (fun cy => ?_)
  ·have h := h.1 (bne_t cy)
   exact h
  have h := h.2 (bne_f cy)
  unfold Q0c.J4
  obtain ⟨ex, a5, h⟩ := h
  refine Q03 a5 ?_
  obtain ⟨ax, b6, be, cu, h⟩ := h
  refine ⟨ax, b6, be, cu, ?_⟩
  refine bif_of (fun dc => ?_) (fun dc => ?_)
  ·have h := h.1 (of_decide_eq_true dc)
   exact h
  have h := h.2 (Int.not_le.1 (of_decide_eq_false dc))
  unfold Q0c.J3
  obtain ⟨I0, ei, h0, h⟩ := h
  refine ⟨fun k vs ww => Blk ww w.heap.size 67 [.int .i64 a7, .int .i64 ad, .int .u64 a4, .int .i64 a6, .slice a1 a0 a2, .slice a8 aa a9] ∧ I0 k vs ww, ei, ⟨a3, h0⟩, fun e4 ai bz eo ek hI => ?_⟩
  obtain ⟨a3, hI⟩ := hI
  have h := h e4 ai bz eo ek hI
  refine ⟨a1, a0, a2, a3.celli 4 rfl rfl, ?_⟩
  refine bif_of (fun cr => ?_) (fun cr => ?_)
  ·have h := h.1 (of_decide_eq_true cr)
   refine Q01 fun dl e0 => ?_
   have b7 := (Ext.refl no ai).x_drew e0
   have a3 := a3.x_drew e0
   refine ⟨a1, a0, a2, a3.celli 4 rfl rfl, ?_⟩
   obtain ⟨ew, bt, h⟩ := h
   refine Q03 bt ?_
   obtain ⟨ab, ac, h⟩ := h
   refine ⟨ab, ac, ?_⟩
   obtain ⟨c1, c9, h⟩ := h
   refine ⟨c1, (b7).cell c9 id, ?_⟩
   refine Q03 a5 ?_
   obtain ⟨c0, cg, h⟩ := h
   refine ⟨c0, (b7).cell cg id, ?_⟩
   refine bif_fo (fun cf => ?_) (fun cf => ?_)
   ·have h := h.2 (beq_f cf)
    obtain ⟨af, ae, h⟩ := h
    try rw [w64 af ae]
    have h := h dl b7
    obtain ⟨e8, hk, h⟩ := h
    exact ⟨e8, hk, a3, h⟩
   have h := h.1 (beq_t cf)
   refine Q01 fun dh e2 => ?_
   have bo := b7.x_drew e2
   have a3 := a3.x_drew e2
   refine Q03 a5 ?_
   obtain ⟨an, dk, h⟩ := h
   refine ⟨an, (bo).cell dk id, ?_⟩
   refine ⟨a1, a0, a2, a3.celli 4 rfl rfl, ?_⟩
   refine Q03 bt ?_
   obtain ⟨ab, ac, h⟩ := h
   refine ⟨ab, ac, ?_⟩
   obtain ⟨d4, cm, ca, dp, h⟩ := h
   refine ⟨d4, cm, ca, (bo).cell dp id, ?_⟩
   have h := h dh bo
   refine h.mono fun ec e6 h => ?_
   obtain ⟨aq, ag, he, hk, h⟩ := h
   refine ⟨aq, ag, he, ?_⟩
   have a3 := hk.blk a3 (by simp)
   obtain ⟨af, ae, h⟩ := h
   try rw [w64 af ae]
   obtain ⟨ea, hk, h⟩ := h
   exact ⟨ea, hk, a3, h⟩
  have h := h.2 (Int.not_lt.1 (of_decide_eq_false cr))
  refine Q03 a5 ?_
  obtain ⟨ay, bi, bb, d9, h⟩ := h
  refine ⟨ay, bi, bb, d9, ?_⟩
  refine Q01 fun da c3 => ?_
  have a3 := a3.x_alloc c3
  have h := h da ai.heap.size ((Ext.refl no ai).x_alloc c3) (Blk.of_new c3) ((Ext.refl no ai)).size (Q0w c3)
  obtain ⟨cw, de, du, cx, hr, hk, h⟩ := h
  refine ⟨cw, de, du, cx, hr, ?_⟩
  have a3 := hk.blk a3 (by simp)
  refine Q03 a5 ?_
  obtain ⟨hcs, hof, h⟩ := h
  refine ⟨hcs, Q01 fun dd e3 => ?_⟩
  replace h := Q0f h e3
  have a3 := a3.off (by rw [Q0a]; exact hof _ (by simp)) e3
  refine Q01 fun c6 dx => ?_
  have bk := (Ext.refl no dd).x_drew dx
  have a3 := a3.x_drew dx
  refine Q03 a5 ?_
  obtain ⟨b5, b4, au, d5, h⟩ := h
  refine ⟨b5, b4, au, (bk).cell d5 id, ?_⟩
  refine ⟨a8, aa, a9, a3.celli 5 rfl rfl, ?_⟩
  refine Q01 fun co cb => ?_
  have h := h co c6.heap.size (bk.x_alloc cb) (Blk.of_new cb) (bk).size (Q0w cb)
  obtain ⟨dn, h⟩ := h
  refine ⟨dn, ?_⟩
  obtain ⟨ds, db, cc, dq, hr, h⟩ := h
  refine ⟨ds, db, cc, dq, hr, ?_⟩
  refine Q03 a5 ?_
  obtain ⟨hcs, h⟩ := h
  refine ⟨hcs, Q01 fun el ef => ?_⟩
  replace h := Q0f h ef
  unfold Q0c.J2
  refine Q03 a5 ?_
  obtain ⟨bd, b0, az, cp, h⟩ := h
  refine ⟨bd, b0, az, cp, ?_⟩
  obtain ⟨af, ae, h⟩ := h
  try rw [w64 af ae]
  obtain ⟨I2, ed, h0, h⟩ := h
  refine ⟨I2, ed, h0, fun eg bx ce hI => ?_⟩
  have h := h eg bx ce hI
  refine bif_fo (fun d3 => ?_) (fun d3 => ?_)
  ·have h := h.2 (Int.not_lt.1 (of_decide_eq_false d3))
   exact h
  have h := h.1 (of_decide_eq_true d3)
  refine Q03 a5 ?_
  obtain ⟨b1, av, bf, dm, h⟩ := h
  refine ⟨b1, av, bf, dm, ?_⟩
  obtain ⟨ev, d8, h⟩ := h
  refine Q03 d8 ?_
  obtain ⟨ab, ac, h⟩ := h
  refine ⟨ab, ac, ?_⟩
  obtain ⟨ej, dj, h⟩ := h
  refine ⟨ej, dj, ?_⟩
  refine bif_fo (fun dt => ?_) (fun dt => ?_)
  ·have h := h.2 (bne_f dt)
   exact h
  have h := h.1 (bne_t dt)
  refine Q03 a5 ?_
  obtain ⟨ar, aw, b3, ck, h⟩ := h
  refine ⟨ar, aw, b3, ck, ?_⟩
  obtain ⟨af, ae, h⟩ := h
  try rw [w64 af ae]
  obtain ⟨ey, dw, h⟩ := h
  refine Q03 dw ?_
  obtain ⟨ab, ac, h⟩ := h
  refine ⟨ab, ac, ?_⟩
  obtain ⟨eh, c5, h⟩ := h
  refine ⟨eh, c5, ?_⟩
  refine bif_fo (fun c7 => ?_) (fun c7 => ?_)
  ·have h := h.2 (beq_f c7)
   exact h
  have h := h.1 (beq_t c7)
  unfold Q0c.J1
  refine Q01 fun cj eb => ?_
  have al := (Ext.refl no bx).x_drew eb
  refine Q03 a5 ?_
  obtain ⟨b8, ba, b9, dr, h⟩ := h
  refine ⟨b8, ba, b9, (al).cell dr id, ?_⟩
  obtain ⟨eu, dv, h⟩ := h
  refine Q03 dv ?_
  obtain ⟨ab, ac, h⟩ := h
  refine ⟨ab, ac, ?_⟩
  obtain ⟨es, ci, h⟩ := h
  refine ⟨es, (al).cell ci id, ?_⟩
  refine Q03 a5 ?_
  obtain ⟨b2, bh, bg, c4, h⟩ := h
  refine ⟨b2, bh, bg, (al).cell c4 id, ?_⟩
  obtain ⟨ez, d1, h⟩ := h
  refine Q03 d1 ?_
  obtain ⟨ab, ac, h⟩ := h
  refine ⟨ab, ac, ?_⟩
  obtain ⟨d0, d7, cz, cq, h⟩ := h
  refine ⟨d0, d7, cz, (al).cell cq id, ?_⟩
  have h := h cj al
  refine h.mono fun ep e7 h => ?_
  obtain ⟨bn, br, bq, he, h⟩ := h
  refine ⟨bn, br, bq, he, ?_⟩
  obtain ⟨cn, ch, d2, dg, h⟩ := h
  refine ⟨cn, ch, d2, dg, ?_⟩
  refine h.mono fun dz e1 h => ?_
  obtain ⟨ao, ap, am, bc, he, h⟩ := h
  refine ⟨ao, ap, am, bc, he, ?_⟩
  refine bif_of (fun bm => ?_) (fun bm => ?_)
  ·have h := h.1 (bne_t bm)
   exact h
  have h := h.2 (bne_f bm)
  refine bif_of (fun bp => ?_) (fun bp => ?_)
  ·have h := h.1 (bne_t bp)
   exact h
  have h := h.2 (bne_f bp)
  obtain ⟨I4, df, h0, h⟩ := h
  refine ⟨I4, df, h0, fun cs bs cv c8 hI => ?_⟩
  have h := h cs bs cv c8 hI
  refine bif_of (fun bl => ?_) (fun bl => ?_)
  ·have h := h.1 (of_decide_eq_true bl)
   obtain ⟨eq, bu, h⟩ := h
   refine Q03 bu ?_
   obtain ⟨ab, ac, h⟩ := h
   refine ⟨ab, ac, ?_⟩
   obtain ⟨ct, c2, h⟩ := h
   refine ⟨ct, c2, ?_⟩
   obtain ⟨af, ae, h⟩ := h
   try rw [w64 af ae]
   obtain ⟨cd, hk, h⟩ := h
   exact ⟨cd, hk, h⟩
  have h := h.2 (Int.not_lt.1 (of_decide_eq_false bl))
  refine Q03 a5 ?_
  obtain ⟨ah, ak, aj, bw, h⟩ := h
  refine ⟨ah, ak, aj, bw, ?_⟩
  obtain ⟨af, ae, h⟩ := h
  try rw [w64 af ae]
  obtain ⟨et, bv, h⟩ := h
  refine Q03 bv ?_
  obtain ⟨ab, ac, h⟩ := h
  refine ⟨ab, ac, ?_⟩
  obtain ⟨hcs, h⟩ := h
  refine ⟨hcs, Q01 fun dy cl => ?_⟩
  replace h := Q0f h cl
  obtain ⟨af, ae, h⟩ := h
  try rw [w64 af ae]
  obtain ⟨d6, hk, h⟩ := h
  exact ⟨d6, hk, h⟩

theorem Q0c.go (r1 o2 : Option Addr) (a6 a9 a0 a4 : Int) (a1 : Option Addr) (a3 a2 : Nat) (a7 : Option Addr) (a8 a5 : Nat) {R : RW} {w : World} (h : Q0c.N r1 o2 a6 a9 a0 a4 a1 a3 a2 a7 a8 a5 R w) : Calls Try.prog 27 #[.pointer r1, .pointer o2, .agg #[.int .i64 a6, .int .i64 a9, .int .u64 a0, .int .i64 a4, .slice a1 a3 a2, .slice a7 a8 a5]] w fun e w' => ∃ v, e = .returned v ∧ R v w' := Q0c.ok r1 o2 a6 a9 a0 a4 a1 a3 a2 a7 a8 a5 (Q0c.up r1 o2 a6 a9 a0 a4 a1 a3 a2 a7 a8 a5 h)
theorem Q0c.run (r1 o2 : Option Addr) (a6 a9 a0 a4 : Int) (a1 : Option Addr) (a3 a2 : Nat) (a7 : Option Addr) (a8 a5 : Nat) {V : Value} {Q : World → Prop} {w : World} (h : Q0c.N r1 o2 a6 a9 a0 a4 a1 a3 a2 a7 a8 a5 (fun v w' => v = V ∧ Q w') w) : Calls Try.prog 27 #[.pointer r1, .pointer o2, .agg #[.int .i64 a6, .int .i64 a9, .int .u64 a0, .int .i64 a4, .slice a1 a3 a2, .slice a7 a8 a5]] w (Ret V Q) := (Q0c.go r1 o2 a6 a9 a0 a4 a1 a3 a2 a7 a8 a5 h).mono fun e w' ⟨v, he, hv, hq⟩ => ⟨by rw [he, hv], hq⟩

def Q0K.M (bn c1 az be : Int) (an : Option Addr) (am bc : Nat) (bq : Option Addr) (br bp : Nat) (bo bs b6 ap : Int) (al : Option Addr) (aj ak : Nat) (bh : Option Addr) (bf bi : Nat) (R : RW) (w : World) : Prop :=
 thenW (w.alloc (.cells #[.int .i64 bn, .int .i64 c1, .int .u64 az, .int .i64 be, .slice an am bc, .slice bq br bp] 67)) fun a2 =>
 thenW (a2.alloc (.cells #[.int .i64 bo, .int .i64 bs, .int .u64 b6, .int .i64 ap, .slice al aj ak, .slice bh bf bi] 67)) fun a0 =>
 ∃ (bb : Int), a0.cell? ((blk w.heap.size).add 0) = some (.int .i64 bb) ∧
 ∃ (b4 : Int), a0.cell? ((blk a2.heap.size).add 0) = some (.int .i64 b4) ∧
 bif bb != b4 then (
 R (.bool false) a0) else (
 ∃ (bj : Int), a0.cell? ((blk w.heap.size).add 1) = some (.int .i64 bj) ∧
 ∃ (bm : Int), a0.cell? ((blk a2.heap.size).add 1) = some (.int .i64 bm) ∧
 bif bj != bm then (
 R (.bool false) a0) else (
 ∃ (ac : Int), a0.cell? ((blk w.heap.size).add 2) = some (.int .u64 ac) ∧
 ∃ (a5 : Int), a0.cell? ((blk a2.heap.size).add 2) = some (.int .u64 a5) ∧
 bif ac != a5 then (
 R (.bool false) a0) else (
 ∃ (ai : Int), a0.cell? ((blk w.heap.size).add 3) = some (.int .i64 ai) ∧
 ∃ (ah : Int), a0.cell? ((blk a2.heap.size).add 3) = some (.int .i64 ah) ∧
 bif ai != ah then (
 R (.bool false) a0) else (
 ∃ (ba : Option Addr) (ae aq : Nat), a0.cell? ((blk w.heap.size).add 4) = some (.slice ba ae aq) ∧
 ∃ (b3 : Option Addr) (af au : Nat), a0.cell? ((blk a2.heap.size).add 4) = some (.slice b3 af au) ∧
 bif (ae : Int) != (af : Int) then (
 R (.bool false) a0) else (
 ∃ (b1 : Option Addr) (b7 ao : Nat), a0.cell? ((blk w.heap.size).add 5) = some (.slice b1 b7 ao) ∧
 ∃ (bd : Option Addr) (ax ar : Nat), a0.cell? ((blk a2.heap.size).add 5) = some (.slice bd ax ar) ∧
 Calls Try.prog 56 #[.slice b1 b7 ao, .slice bd ax ar] a0 fun c4 c0 => ∃ (b9 : Bool), c4 = .returned (.bool b9) ∧
 bif !b9 then (
 R (.bool false) c0) else (
 ∃ (I0 : Nat → List Value → World → Prop) (ca : Nat), I0 ca [.int .i64 0] c0 ∧ ∀ (c6 : Nat) (bg : World) (ag : Int), I0 c6 [.int .i64 ag] bg →
 ∃ (ay : Option Addr) (aa b0 : Nat), bg.cell? ((blk w.heap.size).add 4) = some (.slice ay aa b0) ∧
 bif decide (ag < (aa : Int)) then (
 thenW (bg.drew) fun a1 =>
 ∃ (a8 : Option Addr) (a3 aw : Nat), a1.cell? ((blk w.heap.size).add 4) = some (.slice a8 a3 aw) ∧
 a8.elim False fun c9 =>
 0 ≤ (ag : Int) ∧ (ag : Int) < (a3 : Int) ∧
 ∃ (bl : Int), a1.cell? ((c9.add (Int.toNat ag * 2)).add 0) = some (.int .i64 bl) ∧
 ∃ (a9 : Option Addr) (a6 b8 : Nat), a1.cell? ((blk a2.heap.size).add 4) = some (.slice a9 a6 b8) ∧
 a9.elim False fun c8 =>
 0 ≤ (ag : Int) ∧ (ag : Int) < (a6 : Int) ∧
 ∃ (bk : Int), a1.cell? ((c8.add (Int.toNat ag * 2)).add 0) = some (.int .i64 bk) ∧
 bif bl != bk then (
 R (.bool false) a1) else (
 ∃ (a4 : Option Addr) (ab b5 : Nat), a1.cell? ((blk w.heap.size).add 4) = some (.slice a4 ab b5) ∧
 a4.elim False fun c7 =>
 0 ≤ (ag : Int) ∧ (ag : Int) < (ab : Int) ∧
 ∃ (bu : Option Addr) (bt bw : Nat), a1.cell? ((c7.add (Int.toNat ag * 2)).add 1) = some (.slice bu bt bw) ∧
 ∃ (ad : Option Addr) (a7 b2 : Nat), a1.cell? ((blk a2.heap.size).add 4) = some (.slice ad a7 b2) ∧
 ad.elim False fun cb =>
 0 ≤ (ag : Int) ∧ (ag : Int) < (a7 : Int) ∧
 ∃ (c2 : Option Addr) (bx bv : Nat), a1.cell? ((cb.add (Int.toNat ag * 2)).add 1) = some (.slice c2 bx bv) ∧
 Calls Try.prog 56 #[.slice bu bt bw, .slice c2 bx bv] a1 fun c3 bz => ∃ (av : Bool), c3 = .returned (.bool av) ∧
 bif !av then (
 R (.bool false) bz) else (
 ∃ c5, c5 < c6 ∧ I0 c5 [.int .i64 (IntKind.i64.wrap (ag + 1))] bz))) else (
 R (.bool true) bg)))))))

theorem Q0K.ok (ad aj a7 a9 : Int) (a4 : Option Addr) (a3 a6 : Nat) (ah : Option Addr) (ag af : Nat) (ae ai a8 a5 : Int) (a2 : Option Addr) (a0 a1 : Nat) (ac : Option Addr) (aa ab : Nat) {R : RW} {w : World} (h : Q0K.M ad aj a7 a9 a4 a3 a6 ah ag af ae ai a8 a5 a2 a0 a1 ac aa ab R w) : Calls Try.prog 25 #[.agg #[.int .i64 ad, .int .i64 aj, .int .u64 a7, .int .i64 a9, .slice a4 a3 a6, .slice ah ag af], .agg #[.int .i64 ae, .int .i64 ai, .int .u64 a8, .int .i64 a5, .slice a2 a0 a1, .slice ac aa ab]] w fun e w' => ∃ v, e = .returned v ∧ R v w' :=
  Q0l follows (H := [(0, [2, 3], [(5, (.one (.int .i64)))])]) (args := [.agg #[.int .i64 ad, .int .i64 aj, .int .u64 a7, .int .i64 a9, .slice a4 a3 a6, .slice ah ag af], .agg #[.int .i64 ae, .int .i64 ai, .int .u64 a8, .int .i64 a5, .slice a2 a0 a1, .slice ac aa ab]]) (cast (by kernel_rfl) h)

def Q0K.N (ad am a6 aa : Int) (ae : Option Addr) (a0 b0 : Nat) (ar : Option Addr) (aq ap : Nat) (af al a7 a5 : Int) (ac : Option Addr) (a2 au : Nat) (ak : Option Addr) (ai aj : Nat) (R : RW) (w : World) : Prop :=
 (ad ≠ af →
 ∀ (a1 : World), Ext no w a1 →
 R (.bool false) a1) ∧
 (ad = af →
 (am ≠ al →
 ∀ (a1 : World), Ext no w a1 →
 R (.bool false) a1) ∧
 (am = al →
 (a6 ≠ a7 →
 ∀ (a1 : World), Ext no w a1 →
 R (.bool false) a1) ∧
 (a6 = a7 →
 (aa ≠ a5 →
 ∀ (a1 : World), Ext no w a1 →
 R (.bool false) a1) ∧
 (aa = a5 →
 ((a0 : Int) ≠ (a2 : Int) →
 ∀ (a1 : World), Ext no w a1 →
 R (.bool false) a1) ∧
 ((a0 : Int) = (a2 : Int) →
 ∀ (a1 : World) (b6 b3 : Nat), Ext no w a1 → Priv w a1 [b6, b3] →
 Calls Try.prog 56 #[.slice ar aq ap, .slice ak ai aj] a1 fun b7 an => ∃ (a8 : Bool), b7 = .returned (.bool a8) ∧
 Keep [b6, b3] a1 an ∧
 (a8 = false →
 R (.bool false) an) ∧
 (a8 = true →
 ∃ (I0 : Nat → List Value → World → Prop) (ba : Nat), I0 ba [.int .i64 0] an ∧ ∀ (b9 : Nat) (a4 : World) (a3 : Int), I0 b9 [.int .i64 a3] a4 →
 (a3 < (a0 : Int) →
 ∃ b5 : Addr, ae = some b5 ∧
 0 ≤ (a3 : Int) ∧ (a3 : Int) < (a0 : Int) ∧
 ∃ (ag : Int), a4.cell? ((b5.add (Int.toNat a3 * 2)).add 0) = some (.int .i64 ag) ∧
 ∃ b2 : Addr, ac = some b2 ∧
 0 ≤ (a3 : Int) ∧ (a3 : Int) < (a2 : Int) ∧
 ∃ (ah : Int), a4.cell? ((b2.add (Int.toNat a3 * 2)).add 0) = some (.int .i64 ah) ∧
 (ag ≠ ah →
 ∀ (ab : World), Ext no a4 ab →
 R (.bool false) ab) ∧
 (ag = ah →
 0 ≤ (a3 : Int) ∧ (a3 : Int) < (a0 : Int) ∧
 ∃ (aw : Option Addr) (ax az : Nat), a4.cell? ((b5.add (Int.toNat a3 * 2)).add 1) = some (.slice aw ax az) ∧
 0 ≤ (a3 : Int) ∧ (a3 : Int) < (a2 : Int) ∧
 ∃ (av : Option Addr) (b1 ay : Nat), a4.cell? ((b2.add (Int.toNat a3 * 2)).add 1) = some (.slice av b1 ay) ∧
 ∀ (ab : World), Ext no a4 ab →
 Calls Try.prog 56 #[.slice aw ax az, .slice av b1 ay] ab fun b4 ao => ∃ (a9 : Bool), b4 = .returned (.bool a9) ∧
 Keep [b6, b3] ab ao ∧
 (a9 = false →
 R (.bool false) ao) ∧
 (a9 = true →
 (-9223372036854775808 : Int) ≤ (a3 + 1) ∧ (a3 + 1) < 9223372036854775808 ∧
 ∃ b8, b8 < b9 ∧ I0 b8 [.int .i64 (a3 + 1)] ao))) ∧
 ((a0 : Int) ≤ a3 →
 R (.bool true) a4)))))))

theorem Q0K.up (ae al a7 a9 : Int) (a4 : Option Addr) (a3 a5 : Nat) (ai : Option Addr) (ah ag : Nat) (af ak a8 a6 : Int) (a2 : Option Addr) (a0 a1 : Nat) (ac : Option Addr) (aa ab : Nat) {R : RW} {w : World} (h : Q0K.N ae al a7 a9 a4 a3 a5 ai ah ag af ak a8 a6 a2 a0 a1 ac aa ab R w) : Q0K.M ae al a7 a9 a4 a3 a5 ai ah ag af ak a8 a6 a2 a0 a1 ac aa ab R w := by
  unfold Q0K.M
  unfold Q0K.N at h
  refine Q01 fun b1 bo => ?_
  have ad := Blk.of_new bo
  have bz := ((Ext.refl no w)).size
  have aw := (Ext.refl no w).x_alloc bo
  refine Q01 fun am bd => ?_
  have aj := Blk.of_new bd
  have bs := (aw).size
  have bp := Nat.ne_of_lt ad.lt
  have ad := ad.x_alloc bd
  have ao := aw.x_alloc bd
  refine ⟨ae, ad.celli 0 rfl rfl, ?_⟩
  refine ⟨af, aj.celli 0 rfl rfl, ?_⟩
  refine bif_of (fun b8 => ?_) (fun b8 => ?_)
  ·have h := h.1 (bne_t b8)
   have h := h am ao
   exact h
  have h := h.2 (bne_f b8)
  refine ⟨al, ad.celli 1 rfl rfl, ?_⟩
  refine ⟨ak, aj.celli 1 rfl rfl, ?_⟩
  refine bif_of (fun ba => ?_) (fun ba => ?_)
  ·have h := h.1 (bne_t ba)
   have h := h am ao
   exact h
  have h := h.2 (bne_f ba)
  refine ⟨a7, ad.celli 2 rfl rfl, ?_⟩
  refine ⟨a8, aj.celli 2 rfl rfl, ?_⟩
  refine bif_of (fun b6 => ?_) (fun b6 => ?_)
  ·have h := h.1 (bne_t b6)
   have h := h am ao
   exact h
  have h := h.2 (bne_f b6)
  refine ⟨a9, ad.celli 3 rfl rfl, ?_⟩
  refine ⟨a6, aj.celli 3 rfl rfl, ?_⟩
  refine bif_of (fun bg => ?_) (fun bg => ?_)
  ·have h := h.1 (bne_t bg)
   have h := h am ao
   exact h
  have h := h.2 (bne_f bg)
  refine ⟨a4, a3, a5, ad.celli 4 rfl rfl, ?_⟩
  refine ⟨a2, a0, a1, aj.celli 4 rfl rfl, ?_⟩
  refine bif_of (fun bl => ?_) (fun bl => ?_)
  ·have h := h.1 (bne_t bl)
   have h := h am ao
   exact h
  have h := h.2 (bne_f bl)
  refine ⟨ai, ah, ag, ad.celli 5 rfl rfl, ?_⟩
  refine ⟨ac, aa, ab, aj.celli 5 rfl rfl, ?_⟩
  have h := h am (w.heap.size) (b1.heap.size) ao (Priv.cons bz ad.lt (Priv.cons bs aj.lt Priv.nil))
  refine h.mono fun c2 bt h => ?_
  obtain ⟨ap, he, hk, h⟩ := h
  refine ⟨ap, he, ?_⟩
  have ad := hk.blk ad (by simp)
  have aj := hk.blk aj (by simp)
  refine bif_of (fun bc => ?_) (fun bc => ?_)
  ·have h := h.1 (not_t bc)
   exact h
  have h := h.2 (not_f bc)
  obtain ⟨I0, c1, h0, h⟩ := h
  refine ⟨fun k vs ww => Blk ww w.heap.size 67 [.int .i64 ae, .int .i64 al, .int .u64 a7, .int .i64 a9, .slice a4 a3 a5, .slice ai ah ag] ∧ Blk ww b1.heap.size 67 [.int .i64 af, .int .i64 ak, .int .u64 a8, .int .i64 a6, .slice a2 a0 a1, .slice ac aa ab] ∧ I0 k vs ww, c1, ⟨ad, aj, h0⟩, fun bx ay br hI => ?_⟩
  obtain ⟨ad, aj, hI⟩ := hI
  have h := h bx ay br hI
  refine ⟨a4, a3, a5, ad.celli 4 rfl rfl, ?_⟩
  refine bif_fo (fun be => ?_) (fun be => ?_)
  ·have h := h.2 (Int.not_lt.1 (of_decide_eq_false be))
   exact h
  have h := h.1 (of_decide_eq_true be)
  refine Q01 fun ax bi => ?_
  have an := (Ext.refl no ay).x_drew bi
  have ad := ad.x_drew bi
  have aj := aj.x_drew bi
  refine ⟨a4, a3, a5, ad.celli 4 rfl rfl, ?_⟩
  obtain ⟨c4, az, h⟩ := h
  refine Q03 az ?_
  obtain ⟨aq, au, h⟩ := h
  refine ⟨aq, au, ?_⟩
  obtain ⟨b0, b5, h⟩ := h
  refine ⟨b0, (an).cell b5 id, ?_⟩
  refine ⟨a2, a0, a1, aj.celli 4 rfl rfl, ?_⟩
  obtain ⟨c3, av, h⟩ := h
  refine Q03 av ?_
  obtain ⟨aq, au, h⟩ := h
  refine ⟨aq, au, ?_⟩
  obtain ⟨b2, b4, h⟩ := h
  refine ⟨b2, (an).cell b4 id, ?_⟩
  refine bif_of (fun bm => ?_) (fun bm => ?_)
  ·have h := h.1 (bne_t bm)
   have h := h ax an
   exact h
  have h := h.2 (bne_f bm)
  refine ⟨a4, a3, a5, ad.celli 4 rfl rfl, ?_⟩
  refine Q03 az ?_
  obtain ⟨aq, au, h⟩ := h
  refine ⟨aq, au, ?_⟩
  obtain ⟨b7, bb, bj, bh, h⟩ := h
  refine ⟨b7, bb, bj, (an).cell bh id, ?_⟩
  refine ⟨a2, a0, a1, aj.celli 4 rfl rfl, ?_⟩
  refine Q03 av ?_
  obtain ⟨aq, au, h⟩ := h
  refine ⟨aq, au, ?_⟩
  obtain ⟨b3, bk, bf, b9, h⟩ := h
  refine ⟨b3, bk, bf, (an).cell b9 id, ?_⟩
  have h := h ax an
  refine h.mono fun bq bu h => ?_
  obtain ⟨ar, he, hk, h⟩ := h
  refine ⟨ar, he, ?_⟩
  have ad := hk.blk ad (by simp)
  have aj := hk.blk aj (by simp)
  refine bif_of (fun bn => ?_) (fun bn => ?_)
  ·have h := h.1 (not_t bn)
   exact h
  have h := h.2 (not_f bn)
  obtain ⟨bw, c0, h⟩ := h
  try rw [w64 bw c0]
  obtain ⟨bv, hk, h⟩ := h
  exact ⟨bv, hk, ad, aj, h⟩

theorem Q0K.go (ad aj a7 a9 : Int) (a4 : Option Addr) (a3 a6 : Nat) (ah : Option Addr) (ag af : Nat) (ae ai a8 a5 : Int) (a2 : Option Addr) (a0 a1 : Nat) (ac : Option Addr) (aa ab : Nat) {R : RW} {w : World} (h : Q0K.N ad aj a7 a9 a4 a3 a6 ah ag af ae ai a8 a5 a2 a0 a1 ac aa ab R w) : Calls Try.prog 25 #[.agg #[.int .i64 ad, .int .i64 aj, .int .u64 a7, .int .i64 a9, .slice a4 a3 a6, .slice ah ag af], .agg #[.int .i64 ae, .int .i64 ai, .int .u64 a8, .int .i64 a5, .slice a2 a0 a1, .slice ac aa ab]] w fun e w' => ∃ v, e = .returned v ∧ R v w' := Q0K.ok ad aj a7 a9 a4 a3 a6 ah ag af ae ai a8 a5 a2 a0 a1 ac aa ab (Q0K.up ad aj a7 a9 a4 a3 a6 ah ag af ae ai a8 a5 a2 a0 a1 ac aa ab h)
end Go.Proofs.Ytaifegpikhjiiaa
set_option linter.unusedSectionVars false
namespace Go.Mx
open Go
section
variable {P : Program} {w w' : World} {q k : Nat} {t e : TypeId} {cs vs : List Value}
theorem Q37 : ∀ {vs cur : List Value} {j m : Nat}, (setAll cur j vs).take m = setAll (cur.take m) j vs
  | [], _, _, _ => rfl
  | v :: r, cur, j, m => by rw [setAll, setAll, Q37, List.take_set]
theorem Grows.put {w : World} {o : Own} {sz n c g j : Nat} {a : Option Addr} (h : Grows e sz w o g a n c cs) (ok : Tags w o) (hc : cs ≠ []) :
    ∃ b cur, a = some (blk b) ∧ Blk w b e cur ∧ cs.length ≤ cur.length ∧ o b = some g ∧ b < w.heap.size ∧
      ∀ w', Ext (fun x => x = b) w w' → Blk w' b e (setAll cur j vs) → Step (fun i => i = g) w o w' (grow w o) ∧ Grows e sz w' (grow w o) g a n c (setAll cs j vs) := by
  rcases h.own.2 with ⟨hv, h0⟩ | ⟨b, cap, cur, hv, hle, hgb, hnc, hcm, hcs, htk⟩
  · exact absurd (by have := h.own.1; rw [h0] at this; exact List.eq_nil_of_length_eq_zero (by omega)) hc
  cases hv
  have tg := h.tg ⟨b, 0, none⟩ rfl
  have hblk : Blk w b e cur.toList := by unfold Blk; simpa using hgb
  have hcl : cur.toList.length = c * sz := by simpa using hcs
  refine ⟨b, cur.toList, rfl, hblk, ?_, tg.1, tg.2, fun w' X hb' => ?_⟩
  · have := congrArg List.length htk
    rw [List.length_take] at this; omega
  have s : Step (fun i => i = g) w o w' (grow w o) := Step.of_ext X ok fun q hq _ => by subst hq; exact tg.1
  refine ⟨s, ⟨by rw [Q1M]; exact h.own.1, .inr ⟨b, c, (setAll cur.toList j vs).toArray, rfl, Nat.zero_le _, hb', hnc, hcm, by simpa [Q1M] using hcs, ?_⟩⟩, fun ad ha => ?_⟩
  · show (setAll cur.toList j vs).take (n * sz) = _
    rw [Q37, htk]
  · cases ha; exact ⟨(s.own tg.2).trans tg.1, Nat.lt_of_lt_of_le tg.2 s.size⟩
theorem Grows.ne {w : World} {o : Own} {sz n c g b : Nat} {a : Option Addr} {cs' : List Value} (h : Grows e sz w o g a n c cs) (hb : Blk w b t cs') (hte : t ≠ e) : ∀ ad, a = some ad → ad.block ≠ b := by
  intro ad ha hq
  rcases h.own.2 with ⟨hv, h0⟩ | ⟨q, cap, cur, hv, hle, hgb, _⟩
  · cases hv; cases ha
  · cases hv; cases ha
    simp only at hq
    subst hq
    unfold Blk at hb
    rw [hb] at hgb
    cases hgb
    exact hte rfl
theorem Grows.apart {w : World} {o : Own} {e2 sz sz2 n n2 c c2 g g2 : Nat} {a a2 : Option Addr} {cs2 : List Value} (h : Grows e sz w o g a n c cs) (h2 : Grows e2 sz2 w o g2 a2 n2 c2 cs2) (hte : e ≠ e2) : ∀ x y, a = some x → a2 = some y → x.block ≠ y.block := by
  intro x y hx hy hq
  rcases h2.own.2 with ⟨hv, h0⟩ | ⟨q, cap, cur, hv, hle, hgb, _⟩
  · cases hv; cases hy
  · cases hv; cases hy
    exact h.ne (b := q) (t := e2) (cs' := cur.toList) (by unfold Blk; simpa using hgb) (Ne.symm hte) x hx hq
end
end Go.Mx
set_option maxRecDepth 20000
set_option maxHeartbeats 2000000
namespace Go.Proofs.Ytaifegpikhjiiaa
open Go Go.Mx Go.Proofs
open W (OwnB GivesW)
def boundL (e : Int) : List UInt8 := numL e.toNat
theorem Q4e (e : Int) : (boundL e).length ≤ 10 := numF_le _ _
section
variable {w w' w1 : World} {o o' o1 : Own} {q k p N m : Nat} {K : Nat → Prop} {b : List UInt8} {a : Option Addr} {c : Nat}
theorem Q3y {e : Int} (h0 : 0 ≤ e) (h1 : e < 9223372036854775808) (w : World) : Calls Try.prog 32 #[.int .i64 e] w (fun x w' => ∃ a' c', x = .returned (.slice a' (boundL e).length c') ∧ OwnB w.heap.size w' a' c' (boundL e) ∧ Ext no w w') := by
  refine (Q17.go _ (R := fun v w' => ∃ a' c', v = (.slice a' (boundL e).length c') ∧ OwnB w.heap.size w' a' c' (boundL e) ∧ Ext no w w') ?_).mono fun x w' ⟨v, he, a', c', hv, hw⟩ => ⟨a', c', by rw [he, hv], hw⟩
  unfold Q17.N
  have hw : IntKind.u64.wrap e = ((e.toNat : Nat) : Int) := by rw [wu64 (by omega) (by omega)]; omega
  rw [hw]
  refine (W.Num_spec (bs := []) (c := 0) (RowAt.nil w none) (by decide) (n := e.toNat) (by omega)).mono fun x w4 ⟨a', c', he, ho, hx⟩ => ⟨a', _, c', he, a', c', rfl, ho, hx⟩
theorem Q2a (h : OwnB w.heap.size w' a c b) (X : Ext no w w') : Row w' (grow w o) a (bytesV b) := Row.fresh h.row fun ad ha => (h.fr ad ha).1
theorem eightN (h t : Nat) : (List.range (t + 1)).map (byteAt h) = (List.range t).map (byteAt h) ++ [byteAt h t] := by rw [List.range_succ, List.map_append]; rfl
theorem Q5z {h : Nat} (hh : h < 18446744073709551616) (w : World) :
    Calls Try.prog 33 #[.int .u64 h] w (fun e w' => ∃ a' c', e = .returned (.slice a' (boxL h 0).length c') ∧ OwnB w.heap.size w' a' c' (boxL h 0) ∧ Ext no w w') := by
  refine (Q13.go _ (R := fun v w' => ∃ a' c', v = .slice a' (boxL h 0).length c' ∧ OwnB w.heap.size w' a' c' (boxL h 0) ∧ Ext no w w') ?_).mono fun e w' ⟨v, he, a', c', hv, hw⟩ => ⟨a', c', by rw [he, hv], hw⟩
  unfold Q13.N
  refine ⟨fun m vs w1 => ∃ (t : Nat) (a : Option Addr) (c : Nat), vs = [.slice a ((List.range t).map (byteAt h)).length c, .int .i64 t] ∧ m + t = 8 ∧ OwnB w.heap.size w1 a c ((List.range t).map (byteAt h)) ∧ Ext no w w1, 8, ⟨0, none, 0, rfl, rfl, OwnB.nil _ _, Ext.refl _ _⟩, ?_⟩
  rintro m w1 ba bn bc i ⟨t, a, c, hi, hq, hO, X1⟩
  simp only [List.cons.injEq, Value.int.injEq, Value.slice.injEq, true_and, and_true] at hi
  obtain ⟨⟨rfl, rfl, rfl⟩, rfl⟩ := hi
  refine ⟨fun ht => ?_, fun ht => ?_⟩
  · have ht : t < 8 := by omega
    refine ⟨by omega, by omega, by omega, by omega, by omega, fun w9 q10 X9 hb hq10 hq10' => ?_⟩
    have hb' : Blk w9 q10 5 (bytesV [byteAt h t]) := by
      have e : IntKind.u8.wrap (Int.fdiv (h : Int) (2 ^ (min (Int.toNat ((56 : Int) - ((8 : Int) * (t : Int)))) (IntKind.bits .u64)))) = ((byteAt h t).toNat : Int) := by
        have e1 : min (Int.toNat ((56 : Int) - ((8 : Int) * (t : Int)))) (IntKind.bits .u64) = 56 - 8 * t := by
          have : IntKind.bits .u64 = 64 := rfl
          omega
        rw [e1, Q1u, Int.fdiv_eq_ediv_of_nonneg _ (Int.pow_nonneg (by decide)), IntKind.wrap_u8]
        rw [show ((2 : Int) ^ (56 - 8 * t)) = ((2 ^ (56 - 8 * t) : Nat) : Int) by rw [Int.natCast_pow]; rfl]
        rfl
      rw [e] at hb
      exact hb
    have l1 := X1.size
    have hO9 : OwnB w.heap.size w9 (some (blk q10)) 1 [byteAt h t] := ⟨Q1m hb' rfl (by show (1 : Nat) ≤ maxLen; unfold maxLen; decide), fun ad ha => by cases ha; exact ⟨by show _ ≤ q10; omega, hq10'⟩⟩
    obtain ⟨a', c', w12, hr, hO', hx⟩ := (hO.no X9).append (t := 29) (ty := 29) Try.underlying29 (Nat.le_trans l1 X9.size) (xc := 1) (xs := [byteAt h t]) hO9.row (by rw [List.length_map, List.length_range]; show t + 1 ≤ _; omega)
    rw [← eightN] at hr hO'
    exact ⟨a', _, c', w12, hr, by omega, by omega, m - 1, by omega, t + 1, a', c', rfl, by omega, hO', (X1.trans X9).then hx fun b hb => .inr hb⟩
  · obtain rfl : t = 8 := by omega
    have e : (List.range 8).map (byteAt h) = boxL h 0 := rfl
    rw [e] at hO ⊢
    exact ⟨ba, bc, rfl, hO, X1⟩
end
structure RS where
  who : Int
  secret : Int
  keys : List Int
  olds : List (List UInt8)
def RS.V (R : RS) (k : Nat) (ka : Option Addr) (kc : Nat) (oa : Option Addr) (oc : Nat) : List Value := [.pointer (some (blk k)), .int .i64 R.who, .int .u64 R.secret, .slice ka R.keys.length kc, .slice oa R.olds.length oc]
abbrev KRw (w : World) (o : Own) (g : Nat) (a : Option Addr) (c : Nat) (l : List Int) : Prop := Grows 27 1 w o g a l.length c (l.map u64V)
abbrev ORw (w : World) (o : Own) (g : Nat) (a : Option Addr) (c : Nat) (l : List BS) : Prop := Grows 29 1 w o g a l.length c (l.map BS.v)
def BSk (w : World) (o : Own) (x : BS) : Prop := Row w o x.a (bytesV x.bs) ∧ x.bs.length ≤ x.c
theorem BSk.step {K : Nat → Prop} {w w' : World} {o o' : Own} {x : BS} (h : BSk w o x) (s : Step K w o w' o') : BSk w' o' x := ⟨h.1.step s, h.2⟩

theorem inf29 : (Try.prog.info? 29).map (fun i => (i.zero, i.size, i.bytes)) = some (some (.slice none 0 0), 1, 24) := by kernel_rfl
structure EG (w : World) (o : Own) (q k : Nat) (R : RS) : Prop where
  mem : ∃ ka kc oa oc, ∃ ol : List BS, Blk w q 93 (R.V k ka kc oa oc) ∧ KRw w o q ka kc R.keys ∧ ORw w o q oa oc ol ∧ ol.map BS.bs = R.olds ∧ ∀ x ∈ ol, BSk w o x
  tg : o q = some q
section
variable {w w' w1 : World} {o o' o1 : Own} {q k p N m : Nat} {K : Nat → Prop} {R : RS} {b : List UInt8} {a : Option Addr} {c : Nat}
theorem EG.lt (h : EG w o q k R) : q < w.heap.size := by
  obtain ⟨ka, kc, oa, oc, ol, hb, _⟩ := h.mem
  exact hb.lt
theorem EG.step (h : EG w o q k R) (s : Step K w o w' o') (hk : ¬ K q) : EG w' o' q k R := by
  obtain ⟨⟨ka, kc, oa, oc, ol, hb, hk1, ho, hm, hx⟩, tg⟩ := h
  exact ⟨⟨ka, kc, oa, oc, ol, s.blk hb tg hk, hk1.step s hk, ho.step s hk, hm, fun x h => (hx x h).step s⟩, by rw [s.own hb.lt]; exact tg⟩
theorem Q4S {l : List Int} : ∀ u ∈ l.map u64V, u.oneCell' = true := fun u hu => by
  obtain ⟨x, _, rfl⟩ := List.mem_map.1 hu
  rfl
theorem Q4Z {l : List BS} : ∀ u ∈ l.map BS.v, u.oneCell' = true := fun u hu => by
  obtain ⟨x, _, rfl⟩ := List.mem_map.1 hu
  rfl
theorem EG.pushKey (h : EG w o q k R) (ok : Tags w o) (hl : R.keys.length < 1000000) (x : Int) {qb : Nat} (hb : Blk w qb 27 [.int .u64 x]) {ka : Option Addr} {n kc : Nat} (hc : w.cell? ((blk q).add 3) = some (.slice ka n kc)) :
    ∃ a' n' c' w' o', (Builtin.append_ #[22, 22] 22 #[.slice ka n kc, .slice (some (blk qb)) 1 1]).run Try.prog w = .ok (.slice a' n' c') w' ∧ Step (fun j => j = q) w o w' o' ∧
      Q07 w' ((blk q).add 3) ∧ ∀ w2, w2 = w'.setCell ((blk q).add 3) (.slice a' n' c') → Step (fun j => j = q) w o w2 (grow w' o') ∧ EG w2 (grow w' o') q k { R with keys := R.keys ++ [x] } := by
  obtain ⟨⟨ka', kc', oa, oc, ol, hbk, hk1, ho, hm, hx⟩, tg⟩ := h
  have hc2 := hbk.cella (i := 3) (v := .slice ka' R.keys.length kc') rfl
  rw [hc] at hc2
  cases hc2
  obtain ⟨i, hi, hz, hsz, hby⟩ := info_of inf27
  obtain ⟨a', c', w', o', hrun, s2, hk2, hk, _⟩ := Grows.push (ty := 22) Try.underlying22 hi hz hsz hby rfl (by decide) hk1 ok hbk.lt (xa := some (blk qb)) (m := 1) (xc := 1) (news := [x].map u64V) rfl (RowAt.of_blk hb) Q4S (by omega) (by omega)
  have X2 : Ext (fun b => ∃ ad, ka = some ad ∧ b = ad.block) w w' := ⟨s2.ext.os, s2.ext.tape, s2.ext.output, s2.ext.size, fun b hb hn => hk b hb fun ad ha hb' => hn ⟨ad, ha, hb'⟩⟩
  have hb2 : Blk w' q 93 _ := hbk.ext X2 fun ⟨ad, h1, h2⟩ => hk1.ne hbk (by decide) ad h1 h2.symm
  have ho2 : ORw w' o' q oa oc ol := ho.keep X2 (fun ad ha ⟨ad', h1, h2⟩ => ho.apart hk1 (by decide) ad ad' ha h1 h2) fun b hb => s2.own hb
  have tg2 : o' q = some q := by rw [s2.own hbk.lt]; exact tg
  refine ⟨a', _, c', w', o', hrun, s2, hb2.cana (i := 3) rfl, fun w3 e3 => ?_⟩
  have X3 : Ext (fun b => b = q) w' w3 := (Ext.refl (fun b => b = q) w').x_set (q := q) (i := 3) rfl (.inl rfl) e3
  have b3 := hb2.seti 3 rfl e3
  have hk2' : KRw w' o' q a' c' (R.keys ++ [x]) := by
    unfold KRw
    rw [List.length_append, List.map_append]; exact hk2
  have s3 : Step (fun j => j = q) w' o' w3 (grow w' o') := Step.of_ext X3 s2.ok fun b hb _ => by subst hb; exact tg2
  refine ⟨s2.trans s3, ⟨⟨a', c', oa, oc, ol, ?_, ?_, ?_, hm, fun y hy => ((hx y hy).step s2).step s3⟩, by rw [s3.own hb2.lt]; exact tg2⟩⟩
  · have e : RS.V { R with keys := R.keys ++ [x] } k a' c' oa oc = [.pointer (some (blk k)), .int .i64 R.who, .int .u64 R.secret, .slice a' (R.keys.length + 1) c', .slice oa R.olds.length oc] := by unfold RS.V; rw [List.length_append]; rfl
    rw [e]; exact b3
  · exact hk2'.keep X3 (hk2'.ne hb2 (by decide)) fun b hb => s3.own hb
  · exact ho2.keep X3 (ho2.ne hb2 (by decide)) fun b hb => s3.own hb
theorem EG.pushOld (h : EG w o q k R) (ok : Tags w o) (hl : R.olds.length < 1000000) {x : BS} (hxk : BSk w o x) {qb : Nat} (hb : Blk w qb 29 [x.v]) {ka : Option Addr} {n kc : Nat} (hc : w.cell? ((blk q).add 4) = some (.slice ka n kc)) :
    ∃ a' n' c' w' o', (Builtin.append_ #[83, 83] 83 #[.slice ka n kc, .slice (some (blk qb)) 1 1]).run Try.prog w = .ok (.slice a' n' c') w' ∧ Step (fun j => j = q) w o w' o' ∧
      Q07 w' ((blk q).add 4) ∧ ∀ w2, w2 = w'.setCell ((blk q).add 4) (.slice a' n' c') → Step (fun j => j = q) w o w2 (grow w' o') ∧ EG w2 (grow w' o') q k { R with olds := R.olds ++ [x.bs] } := by
  obtain ⟨⟨ka', kc', oa, oc, ol, hbk, hk1, ho, hm, hx⟩, tg⟩ := h
  have hol : ol.length = R.olds.length := by rw [← hm, List.length_map]
  have hc2 := hbk.cella (i := 4) (v := .slice oa R.olds.length oc) rfl
  rw [hc] at hc2
  cases hc2
  obtain ⟨i, hi, hz, hsz, hby⟩ := info_of inf29
  obtain ⟨a', c', w', o', hrun, s2, hk2, hk, _⟩ := Grows.push (ty := 83) Try.underlying83 hi hz hsz hby rfl (by decide) ho ok hbk.lt (xa := some (blk qb)) (m := 1) (xc := 1) (news := [x].map BS.v) rfl (RowAt.of_blk hb) Q4Z (by omega) (by omega)
  rw [hol] at hrun
  have X2 : Ext (fun b => ∃ ad, ka = some ad ∧ b = ad.block) w w' := ⟨s2.ext.os, s2.ext.tape, s2.ext.output, s2.ext.size, fun b hb hn => hk b hb fun ad ha hb' => hn ⟨ad, ha, hb'⟩⟩
  have hb2 : Blk w' q 93 _ := hbk.ext X2 fun ⟨ad, h1, h2⟩ => ho.ne hbk (by decide) ad h1 h2.symm
  have hk1' : KRw w' o' q ka' kc' R.keys := hk1.keep X2 (fun ad ha ⟨ad', h1, h2⟩ => hk1.apart ho (by decide) ad ad' ha h1 h2) fun b hb => s2.own hb
  have tg2 : o' q = some q := by rw [s2.own hbk.lt]; exact tg
  refine ⟨a', _, c', w', o', hrun, s2, hb2.cana (i := 4) rfl, fun w3 e3 => ?_⟩
  have X3 : Ext (fun b => b = q) w' w3 := (Ext.refl (fun b => b = q) w').x_set (q := q) (i := 4) rfl (.inl rfl) e3
  have b3 := hb2.seti 4 rfl e3
  have hk2' : ORw w' o' q a' c' (ol ++ [x]) := by
    unfold ORw
    rw [List.length_append, List.map_append]; exact hk2
  have s3 : Step (fun j => j = q) w' o' w3 (grow w' o') := Step.of_ext X3 s2.ok fun b hb _ => by subst hb; exact tg2
  refine ⟨s2.trans s3, ⟨⟨ka', kc', a', c', ol ++ [x], ?_, ?_, ?_, by rw [List.map_append, hm]; rfl, fun y hy => ?_⟩, by rw [s3.own hb2.lt]; exact tg2⟩⟩
  · have e : RS.V { R with olds := R.olds ++ [x.bs] } k ka' kc' a' c' = [.pointer (some (blk k)), .int .i64 R.who, .int .u64 R.secret, .slice ka' R.keys.length kc', .slice a' (R.olds.length + 1) c'] := by unfold RS.V; rw [List.length_append]; rfl
    rw [e]; exact b3
  · exact hk1'.keep X3 (hk1'.ne hb2 (by decide)) fun b hb => s3.own hb
  · exact hk2'.keep X3 (hk2'.ne hb2 (by decide)) fun b hb => s3.own hb
  · rcases List.mem_append.1 hy with hy | hy
    · exact ((hx y hy).step s2).step s3
    · rw [List.mem_singleton.1 hy]; exact (hxk.step s2).step s3
theorem EG.key (h : EG w o q k R) {i : Nat} (hi : i < R.keys.length) : ∃ ka kc ad, w.cell? ((blk q).add 3) = some (.slice ka R.keys.length kc) ∧ ka = some ad ∧ w.cell? (ad.add (i * 1)) = some (.int .u64 (R.keys[i]?.getD 0)) := by
  obtain ⟨⟨ka, kc, oa, oc, ol, hbk, hk1, ho, hm, hx⟩, tg⟩ := h
  have hr := hk1.row
  have hg : (R.keys.map u64V)[i]? = some (u64V (R.keys[i]?.getD 0)) := by rw [List.getElem?_map, List.getElem?_eq_getElem hi]; rfl
  obtain ⟨ad, ha, hc⟩ := hr i _ hg
  exact ⟨ka, kc, ad, hbk.cella (i := 3) rfl, ha, by rw [Nat.mul_one]; exact hc⟩
theorem EG.old (h : EG w o q k R) {i : Nat} (hi : i < R.olds.length) : ∃ oa oc ad, ∃ x : BS, w.cell? ((blk q).add 4) = some (.slice oa R.olds.length oc) ∧ oa = some ad ∧ w.cell? (ad.add (i * 1)) = some (.slice x.a x.bs.length x.c) ∧ x.bs = R.olds[i]?.getD [] ∧ BSk w o x := by
  obtain ⟨⟨ka, kc, oa, oc, ol, hbk, hk1, ho, hm, hx⟩, tg⟩ := h
  have hol : ol.length = R.olds.length := by rw [← hm, List.length_map]
  have hr := ho.row
  have hil : i < ol.length := by omega
  have hg : (ol.map BS.v)[i]? = some (ol[i]).v := by rw [List.getElem?_map, List.getElem?_eq_getElem hil]; rfl
  obtain ⟨ad, ha, hc⟩ := hr i _ hg
  refine ⟨oa, oc, ad, ol[i], hbk.cella (i := 4) rfl, ha, by rw [Nat.mul_one]; exact hc, ?_, hx _ (List.getElem_mem hil)⟩
  rw [← hm, List.getElem?_map, List.getElem?_eq_getElem hil]; rfl
theorem EG.setKey (h : EG w o q k R) (ok : Tags w o) {i : Nat} (hi : i < R.keys.length) {ka : Option Addr} {n kc : Nat} (hc : w.cell? ((blk q).add 3) = some (.slice ka n kc)) {ad : Addr} (ha : ka = some ad) (v : Int) :
    Q07 w (ad.add (i * 1)) ∧ ∀ w2, w2 = w.setCell (ad.add (i * 1)) (.int .u64 v) → ∃ o2, Step (fun j => j = q) w o w2 o2 ∧ EG w2 o2 q k { R with keys := R.keys.set i v } := by
  obtain ⟨⟨ka', kc', oa, oc, ol, hbk, hk1, ho, hm, hx⟩, tg⟩ := h
  have hc2 := hbk.cella (i := 3) (v := .slice ka' R.keys.length kc') rfl
  rw [hc] at hc2
  cases hc2
  have hne : R.keys.map u64V ≠ [] := fun e => by
    have := congrArg List.length e
    rw [List.length_map] at this
    simp at this; rw [this] at hi; simp at hi
  obtain ⟨b, cur, ha2, hb, hle, hob, hbl, hput⟩ := Grows.put (j := i) (vs := [.int .u64 v]) hk1 ok hne
  rw [ha] at ha2
  cases ha2
  rw [List.length_map] at hle
  rw [Nat.mul_one]
  refine ⟨hb.cana (List.getElem?_eq_getElem (by omega)), fun w3 e3 => ?_⟩
  rw [add_blk] at e3
  have X3 : Ext (fun q => q = b) w w3 := (Ext.refl (fun q => q = b) w).x_set (q := b) (i := i) rfl (.inl rfl) e3
  have b3 := hb.seti i (v := .int .u64 v) rfl e3
  obtain ⟨s3, h3⟩ := hput w3 X3 b3
  have hset : setAll (R.keys.map u64V) i [.int .u64 v] = (R.keys.set i v).map u64V := by
    show (R.keys.map u64V).set i _ = _
    rw [List.map_set]; rfl
  refine ⟨_, s3, ⟨⟨some (blk b), kc, oa, oc, ol, ?_, ?_, ?_, hm, fun y hy => (hx y hy).step s3⟩, by rw [s3.own hbk.lt]; exact tg⟩⟩
  · have hgb : q ≠ b := fun e => hk1.ne hbk (by decide) _ ha (by rw [e])
    have e : RS.V { R with keys := R.keys.set i v } k (some (blk b)) kc oa oc = RS.V R k (some (blk b)) kc oa oc := by unfold RS.V; rw [List.length_set]
    rw [e, ← ha]; exact hbk.ext X3 hgb
  · unfold KRw
    rw [← hset, List.length_set, ← ha]
    exact h3
  · exact ho.keep X3 (fun ad' ha' h2 => ho.apart hk1 (by decide) ad' (blk b) ha' ha h2) fun b hb => s3.own hb
theorem EG.who (h : EG w o q k R) : w.cell? ((blk q).add 1) = some (.int .i64 R.who) := by
  obtain ⟨⟨ka, kc, oa, oc, ol, hbk, _⟩, tg⟩ := h
  exact hbk.cella (i := 1) rfl
theorem EG.secret (h : EG w o q k R) : w.cell? ((blk q).add 2) = some (.int .u64 R.secret) := by
  obtain ⟨⟨ka, kc, oa, oc, ol, hbk, _⟩, tg⟩ := h
  exact hbk.cella (i := 2) rfl
theorem EG.orc (h : EG w o q k R) : w.cell? ((blk q).add 0) = some (.pointer (some (blk k))) := by
  obtain ⟨⟨ka, kc, oa, oc, ol, hbk, _⟩, tg⟩ := h
  exact hbk.cella (i := 0) rfl
theorem EG.keysC (h : EG w o q k R) : ∃ ka kc, w.cell? ((blk q).add 3) = some (.slice ka R.keys.length kc) := by
  obtain ⟨⟨ka, kc, oa, oc, ol, hbk, _⟩, tg⟩ := h
  exact ⟨ka, kc, hbk.cella (i := 3) rfl⟩
theorem EG.oldsC (h : EG w o q k R) : ∃ ka kc, w.cell? ((blk q).add 4) = some (.slice ka R.olds.length kc) := by
  obtain ⟨⟨ka, kc, oa, oc, ol, hbk, _⟩, tg⟩ := h
  exact ⟨oa, oc, hbk.cella (i := 4) rfl⟩
def keyK (R : RS) (e : Int) : Int × Int := if e < 0 ∨ (R.keys.length : Int) ≤ e then (0, 2) else if R.keys[e.toNat]?.getD 0 = 0 then (0, 11) else (R.keys[e.toNat]?.getD 0, 0)
theorem Q2k (h : EG w o q k R) (e : Int) : Calls Try.prog 8 #[.pointer (some (blk q)), .int .i64 e] w (Ret (.tuple #[.int .u64 (keyK R e).1, .int .i64 (keyK R e).2]) fun w' => w' = w) := by
  refine Q0W.run _ _ ?_
  unfold Q0W.N
  refine ⟨fun h => (by cases h), fun _ => ⟨fun h0 => ?_, fun h0 => ?_⟩⟩
  · unfold keyK; rw [if_pos (.inl h0)]; exact ⟨rfl, rfl⟩
  obtain ⟨ka, kc, hc⟩ := h.keysC
  refine ⟨_, rfl, _, _, _, hc, fun h1 => ?_, fun h1 => ?_⟩
  · unfold keyK; rw [if_pos (.inr h1)]; exact ⟨rfl, rfl⟩
  obtain ⟨i, rfl⟩ := Int.eq_ofNat_of_zero_le h0
  obtain ⟨ka2, kc2, ad, hc2, ha, hv⟩ := h.key (i := i) (by omega)
  have hk : keyK R (i : Int) = if R.keys[i]?.getD 0 = 0 then (0, 11) else (R.keys[i]?.getD 0, 0) := by unfold keyK; rw [if_neg (by omega)]; rfl
  refine ⟨_, _, _, hc2, ad, ha, by omega, by omega, _, by rw [Int.toNat_natCast]; exact hv, fun hz => ?_, fun hz => ?_⟩
  · rw [hk, if_pos hz]; exact ⟨rfl, rfl⟩
  · rw [hk, if_neg hz]
    exact ⟨_, _, _, hc2, ad, ha, by omega, by omega, _, by rw [Int.toNat_natCast]; exact hv, rfl, rfl⟩
theorem Q4B (h : EG w o q k R) : Calls Try.prog 21 #[.pointer (some (blk q))] w (Ret (.int .i64 R.keys.length) fun w' => w' = w) := by
  refine Q0Q.run _ ?_
  unfold Q0Q.N
  obtain ⟨ka, kc, hc⟩ := h.keysC
  exact ⟨fun h => (by cases h), fun _ => ⟨_, rfl, _, _, _, hc, rfl, rfl⟩⟩
theorem Q36 (ok : Tags w o) {who secret : Int} (h0 : 0 ≤ who) (h1 : who < 8) (k : Nat) : Calls Try.prog 19 #[.pointer (some (blk k)), .int .i64 who, .int .u64 secret] w (fun x w' => ∃ q o', x = .returned (.tuple #[.pointer (some (blk q)), .int .i64 0]) ∧ w.heap.size ≤ q ∧ Step no w o w' o' ∧ EG w' o' q k ⟨who, secret, [], []⟩) := by
  refine (Q1d.go _ _ _ (R := fun v w' => ∃ q o', v = (.tuple #[.pointer (some (blk q)), .int .i64 0]) ∧ w.heap.size ≤ q ∧ Step no w o w' o' ∧ EG w' o' q k ⟨who, secret, [], []⟩) ?_).mono fun x w' ⟨v, he, q, o', hv, hw⟩ => ⟨q, o', by rw [he, hv], hw⟩
  unfold Q1d.N
  refine ⟨fun h => absurd h (by omega), fun _ => ⟨fun h => absurd h (by omega), fun _ => ⟨fun h => (by cases h), fun _ w7 q8 X7 hb hq hq' => ?_⟩⟩⟩
  have s := (Step.of_no X7 ok).tag hq hq'
  exact ⟨q8, _, rfl, hq, s, ⟨none, 0, none, 0, [], hb, Grows.nil _ _ _ _ _, Grows.nil _ _ _ _ _, rfl, fun x h => (by cases h)⟩, Q1n⟩
end
set_option maxHeartbeats 4000000
open W (OwnB GivesW)
def tells (S : OS) (olds : List (List UInt8)) (e : Nat) (ks : List Int) : Prop :=
  (ks[e + 1]?.getD 0 ≠ 0 ∧ ks[e]?.getD 0 = 0) ∧ (openOf S (ks[e + 1]?.getD 0) (boundL ((e + 1 : Nat) : Int)) (olds[e + 1]?.getD [])).2 = 0 ∧ (openOf S (ks[e + 1]?.getD 0) (boundL ((e + 1 : Nat) : Int)) (olds[e + 1]?.getD [])).1.length = 8
instance (S : OS) (olds : List (List UInt8)) (e : Nat) (ks : List Int) : Decidable (tells S olds e ks) := by unfold tells; infer_instance
def backK (S : OS) (olds : List (List UInt8)) : Nat → List Int → List Int
  | 0, ks => ks
  | e + 1, ks => if tells S olds e ks then backK S olds e (ks.set e (valOf (openOf S (ks[e + 1]?.getD 0) (boundL ((e + 1 : Nat) : Int)) (olds[e + 1]?.getD [])).1)) else ks
def Short (S : OS) : Prop := ∀ x s, alook S.sealed x = some s → s.plain.length ≤ 1000000
section
variable {w w' w1 : World} {o o' o1 : Own} {q k p N m : Nat} {K : Nat → Prop} {R : RS} {S : OS} {b : List UInt8} {a : Option Addr} {c : Nat}
theorem Q62 (h : EG w o q k R) (hP : POrc w o k S) (ok : Tags w o) (hqk : q ≠ k) (hS : Short S) (hl : R.keys.length = R.olds.length) (h0 : 0 < R.keys.length) (h1 : R.keys.length < 1000000) (hol : ∀ b ∈ R.olds, b.length < 1000000) :
    Calls Try.prog 41 #[.pointer (some (blk q))] w (fun x w' => x = .returned (.tuple #[]) ∧ ∃ o', Step (fun j => j = q) w o w' o' ∧ EG w' o' q k { R with keys := backK S R.olds (R.keys.length - 1) R.keys }) := by
  refine (Q0V.go _ (R := fun v w' => v = .tuple #[] ∧ ∃ o', Step (fun j => j = q) w o w' o' ∧ EG w' o' q k { R with keys := backK S R.olds (R.keys.length - 1) R.keys }) ?_).mono fun x w' ⟨v, he, hv, hw⟩ => ⟨by rw [he, hv], hw⟩
  unfold Q0V.N
  obtain ⟨ka0, kc0, hc0⟩ := h.keysC
  have hkq : ¬ k = q := fun e => hqk e.symm
  refine ⟨_, rfl, _, _, _, hc0, by omega, by omega, ?_⟩
  refine ⟨fun m vs w1 => ∃ (e : Nat) (o1 : Own) (ks : List Int), vs = [.int .i64 e] ∧ m = e ∧ e < R.keys.length ∧ ks.length = R.keys.length ∧ Step (fun j => j = q) w o w1 o1 ∧ EG w1 o1 q k { R with keys := ks } ∧ backK S R.olds e ks = backK S R.olds (R.keys.length - 1) R.keys,
    R.keys.length - 1, ⟨R.keys.length - 1, o, R.keys, by congr 2; omega, rfl, by omega, rfl, Step.refl _ ok, h, rfl⟩, ?_⟩
  rintro m w8 i ⟨e, o8, ks, hi, hm, hel, hks, s8, E8, hB⟩
  simp only [List.cons.injEq, Value.int.injEq, true_and, and_true] at hi
  subst hi
  subst hm
  have fin : ∀ (w9 : World) (o9 : Own), backK S R.olds m ks = ks → Step (fun j => j = q) w8 o8 w9 o9 → EG w9 o9 q k { R with keys := ks } → Value.tuple #[] = .tuple #[] ∧ ∃ o', Step (fun j => j = q) w o w9 o' ∧ EG w9 o' q k { R with keys := backK S R.olds (R.keys.length - 1) R.keys } := fun w9 o9 hz s9 E9 => ⟨rfl, o9, s8.trans s9, by rw [← hB, hz]; exact E9⟩
  refine ⟨fun hgt => ?_, fun hle => ?_⟩
  rotate_left
  · have : m = 0 := by omega
    subst this
    exact fin w8 o8 rfl (Step.refl _ s8.ok) E8
  obtain ⟨e, rfl⟩ : ∃ e, m = e + 1 := ⟨m - 1, by omega⟩
  obtain ⟨ka1, kc1, ad1, c1, ha1, v1⟩ := E8.key (i := e + 1) (by show e + 1 < ks.length; omega)
  obtain ⟨ka2, kc2, ad2, c2, ha2, v2⟩ := E8.key (i := e) (by show e < ks.length; omega)
  have hr : c1 = c1 := rfl
  have v1 : w8.cell? (ad1.add ((e + 1) * 1)) = some (.int .u64 (ks[e + 1]?.getD 0)) := v1
  have v2 : w8.cell? (ad2.add (e * 1)) = some (.int .u64 (ks[e]?.getD 0)) := v2
  have ti : ∀ n : Nat, Int.toNat (n : Int) = n := Int.toNat_natCast
  have tj : Int.toNat (((e + 1 : Nat) : Int) - 1) = e := by omega
  refine ⟨_, _, _, c1, ad1, ha1, by omega, by show ((e + 1 : Nat) : Int) < (ks.length : Int); omega, _, by rw [ti]; exact v1, fun hn1 => ?_, fun hz1 => ?_⟩
  rotate_left
  · exact fin w8 o8 (by unfold backK; rw [if_neg (fun h => h.1.1 hz1)]) (Step.refl _ s8.ok) E8
  refine ⟨_, _, _, c2, by omega, by omega, ad2, ha2, by omega, by show ((e + 1 : Nat) : Int) - 1 < (ks.length : Int); omega, _, by rw [tj]; exact v2, fun hz2 => ?_, fun hn2 => ?_⟩
  rotate_left
  · exact fin w8 o8 (by unfold backK; rw [if_neg (fun h => hn2 h.1.2)]) (Step.refl _ s8.ok) E8
  obtain ⟨oa, oc, ad3, x, c3, ha3, v3, hx, hxk⟩ := E8.old (i := e + 1) (by show e + 1 < R.olds.length; omega)
  have hx : x.bs = R.olds[e + 1]?.getD [] := hx
  refine ⟨_, E8.orc, _, _, _, c1, ad1, ha1, by omega, by show ((e + 1 : Nat) : Int) < (ks.length : Int); omega, _, by rw [ti]; exact v1, _, _, _, c3, ad3, ha3, by omega, by show ((e + 1 : Nat) : Int) < (R.olds.length : Int); omega, _, _, _, by rw [ti]; exact v3, fun w22 X22 => ?_⟩
  refine (Q3y (e := ((e + 1 : Nat) : Int)) (by omega) (by omega) w22).mono fun u w37 ⟨ba, bc, he, hO, X37⟩ => ⟨_, _, _, he, ?_⟩
  have X := X22.trans X37
  have s37 := Step.of_no X s8.ok
  have hP37 := (hP.step s8 hkq).step s37 id
  refine ⟨by rw [ti]; exact X.cell v3 id, X.cell c3 id, by rw [ti]; exact X.cell v1 id, X.cell c1 id, X.cell E8.orc id, ?_⟩
  have hxk37 := hxk.step s37
  have hxl : x.bs.length < 1000000 := by
    rw [hx, List.getElem?_eq_getElem (by omega)]
    exact hol _ (List.getElem_mem _)
  have op := OpenO hP37 s37.ok (ks[e + 1]?.getD 0) (ba := ba) (bc := bc) (b := boundL ((e + 1 : Nat) : Int)) hO.row hxk37.1.1 hxl hxk37.2 (fun s hs => hS _ s hs)
  obtain ⟨r, hr⟩ : ∃ r, openOf S (ks[e + 1]?.getD 0) (boundL ((e + 1 : Nat) : Int)) x.bs = r := ⟨_, rfl⟩
  rw [hr] at op
  rw [hx] at hr
  have E37 := E8.step s37 id
  refine Calls.mono op fun u w46 ⟨o46, pa, pc, he, s46, pr, hpc, _⟩ => ⟨_, _, _, _, he, fun hne => ?_, fun hz => ⟨fun hn8 => ?_, fun h8 => ?_⟩⟩
  · exact fin w46 o46 (by unfold backK; rw [if_neg (fun h => hne (by have := h.2.1; rw [hr] at this; exact this))]) (s37.none.trans s46.none) (E37.step s46 id)
  · exact fin w46 o46 (by unfold backK; rw [if_neg (fun h => hn8 (by have := h.2.2; rw [hr] at this; omega))]) (s37.none.trans s46.none) (E37.step s46 id)
  have ht : tells S R.olds e ks := ⟨⟨hn1, hz2⟩, by rw [hr]; exact hz, by rw [hr]; omega⟩
  have hlen : r.1.length = 8 := by omega
  have E46 := E37.step s46 id
  have s46' : Step (fun j => j = q) w8 o8 w46 o46 := s37.none.trans s46.none
  refine ⟨fun m2 vs w1 => ∃ (t : Nat) (o1 : Own), vs = [.int .i64 t] ∧ m2 + t = 8 ∧ Step (fun j => j = q) w46 o46 w1 o1 ∧ EG w1 o1 q k { R with keys := ks.set e (valOf (r.1.take t)) }, 8, ⟨0, o46, rfl, rfl, Step.refl _ s46.ok, ?_⟩, ?_⟩
  · have : ks.set e (valOf (r.1.take 0)) = ks := by
      have hz : (valOf (r.1.take 0) : Int) = ks[e]?.getD 0 := by rw [hz2]; rfl
      rw [hz, List.getElem?_eq_getElem (by omega)]
      exact List.set_getElem_self (by omega)
    rw [this]; exact E46
  rintro m2 w52 i2 ⟨t, o52, hi2, hm2, s52, E52⟩
  simp only [List.cons.injEq, Value.int.injEq, true_and, and_true] at hi2
  subst hi2
  refine ⟨fun htl => ?_, fun htl => ?_⟩
  · have ht8 : t < 8 := by omega
    have pr52 := (pr.step s52).1
    have hg : (bytesV r.1)[t]? = some (.int .u8 ((r.1[t]'(by omega)).toNat : Int)) := Q1p (by omega)
    obtain ⟨pad, hpad, hpc2⟩ := pr52 t _ hg
    obtain ⟨ka4, kc4, ad4, c4, ha4, v4⟩ := E52.key (i := e) (by show e < (ks.set e _).length; rw [List.length_set]; omega)
    have hk4 : (ks.set e ((valOf (r.1.take t) : Nat) : Int))[e]?.getD 0 = ((valOf (r.1.take t) : Nat) : Int) := by rw [List.getElem?_set_self (by omega)]; rfl
    have v4 : w52.cell? (ad4.add (e * 1)) = some (.int .u64 ((ks.set e ((valOf (r.1.take t) : Nat) : Int))[e]?.getD 0)) := v4
    rw [hk4] at v4
    have hll : ((ks.set e ((valOf (r.1.take t) : Nat) : Int)).length : Int) = ks.length := by rw [List.length_set]
    refine ⟨pad, hpad, by omega, by omega, _, by rw [ti, Nat.mul_one]; exact hpc2, _, _, _, c4, by omega, by omega, _, _, _, c4, by omega, by omega, ad4, ha4, by omega, by show ((e + 1 : Nat) : Int) - 1 < _; rw [hll]; omega, _, by rw [tj]; exact v4, ad4, ha4, by omega, by show ((e + 1 : Nat) : Int) - 1 < _; rw [hll]; omega, fun w57 X57 => ?_⟩
    have s57 := Step.of_no X57 s52.ok
    have E57 := E52.step s57 id
    have hlt := Q2P t (r.1.take t) (by simp; omega)
    have hlt2 : valOf (r.1.take t) < 2 ^ 56 := by
      refine Nat.lt_of_lt_of_le hlt ?_
      exact Nat.le_trans (Nat.pow_le_pow_right (by decide) (by omega : t ≤ 7)) (by decide)
    have hxx := u8_lt (r.1[t]'(by omega))
    have hval : IntKind.u64.wrap ((BitVec.ofInt (IntKind.bits .u64) (IntKind.u64.wrap (((valOf (r.1.take t) : Nat) : Int) * 256)) ||| BitVec.ofInt (IntKind.bits .u64) (IntKind.u64.wrap ((r.1[t]'(by omega)).toNat : Int))).toNat) = ((valOf (r.1.take (t + 1)) : Nat) : Int) := by
      rw [show (256 : Int) = 2 ^ min (Int.toNat 8) (IntKind.bits .u64) from rfl, or_byte hlt2 hxx, wu64 (by omega) (by omega), List.take_add_one, show r.1[t]?.toList = [r.1[t]'(by omega)] by simp [show t < r.1.length by omega], Q20]
    rw [add_add, Nat.add_zero, tj, hval]
    obtain ⟨hcan, hset⟩ := E57.setKey s57.ok (i := e) (by show e < (ks.set e _).length; rw [List.length_set]; omega) (X57.cell c4 id) ha4 ((valOf (r.1.take (t + 1)) : Nat) : Int)
    refine ⟨hcan, Q01 fun w66 e66 => ?_⟩
    obtain ⟨o66, s66, E66⟩ := hset w66 e66
    refine ⟨by omega, by omega, m2 - 1, by omega, t + 1, o66, rfl, by omega, (s52.trans s57.none).trans s66, ?_⟩
    have hss : (ks.set e ((valOf (r.1.take t) : Nat) : Int)).set e ((valOf (r.1.take (t + 1)) : Nat) : Int) = ks.set e ((valOf (r.1.take (t + 1)) : Nat) : Int) := by rw [List.set_set]
    have E66 : EG w66 o66 q k { R with keys := (ks.set e ((valOf (r.1.take t) : Nat) : Int)).set e ((valOf (r.1.take (t + 1)) : Nat) : Int) } := E66
    rw [hss] at E66
    exact E66
  · have ht8 : t = 8 := by omega
    subst ht8
    rw [List.take_of_length_le (by omega)] at E52
    refine ⟨by omega, by omega, e, by omega, e, o52, ks.set e (valOf r.1), by congr 2; omega, rfl, by omega, by rw [List.length_set]; exact hks, (s8.trans s46').trans s52, E52, ?_⟩
    rw [← hB]
    show _ = (if tells S R.olds e ks then _ else _)
    rw [if_pos ht, hr]
end
open W (OwnB GivesW)
structure CH (w : World) (o : Own) (cg : Chg) (wa : Option Addr) (wc : Nat) (l : List Wr) (oa : Option Addr) (oc : Nat) : Prop where
  ws : Row w o wa (l.flatMap Wr.C)
  m : l.map Wr.p = cg.ws
  bs : ∀ x ∈ l, Row w o x.a (bytesV x.b) ∧ x.b.length ≤ x.c ∧ x.b.length < 1000000
  old : Row w o oa (bytesV cg.old)
  ol : cg.old.length < 1000000
  n : l.length < 1000000
theorem CH.step {K : Nat → Prop} {w w' : World} {o o' : Own} {cg : Chg} {wa oa : Option Addr} {wc oc : Nat} {l : List Wr} (h : CH w o cg wa wc l oa oc) (s : Step K w o w' o') : CH w' o' cg wa wc l oa oc :=
  ⟨h.ws.step s, h.m, fun x hx => ⟨(h.bs x hx).1.step s, (h.bs x hx).2⟩, h.old.step s, h.ol, h.n⟩
def idxW (l : List Wr) (n : Int) : Int := match l.findIdx? (fun x => x.who == n) with | some i => i | none => -1
def toldBy (S : OS) (R : RS) (c : Chg) : Int × Int := match c.ws.find? (fun p => p.1 == R.who) with | some p => Q11 S R.secret p.2 | none => (0, 11)
def learnK (S : OS) (R : RS) (c : Chg) : RS × Int :=
  if c.kd ≠ 3 ∨ rightM c = false then (R, 1)
  else if 20 ≤ R.keys.length then (R, 3)
  else ({ R with keys := backK S (R.olds ++ [c.old]) R.keys.length (R.keys ++ [(toldBy S R c).1]), olds := R.olds ++ [c.old] }, (toldBy S R c).2)
theorem Q1I {K : Nat → Prop} {w w' : World} {o o' : Own} {b : Nat} {t : TypeId} {cs : List Value} (h : Blk w b t cs ∧ o b = none) (s : Step K w o w' o') : Blk w' b t cs ∧ o' b = none :=
  ⟨h.1.ext s.ext (fun ⟨k, h1, _⟩ => by rw [h.2] at h1; cases h1), by rw [s.own h.1.lt]; exact h.2⟩
theorem Q3w (l : List Wr) (n : Int) : (∃ (i : Nat) (x : Wr), l[i]? = some x ∧ x.who = n ∧ idxW l n = (i : Int) ∧ (l.map Wr.p).find? (fun p => p.1 == n) = some x.p) ∨ (idxW l n = -1 ∧ (l.map Wr.p).find? (fun p => p.1 == n) = none) := by
  unfold idxW
  induction l with
  | nil => exact .inr ⟨rfl, rfl⟩
  | cons y r ih =>
    rw [List.findIdx?_cons, List.map_cons, List.find?_cons]
    by_cases hy : (y.who == n) = true
    · have hp : (y.p.1 == n) = true := hy
      rw [if_pos hy, hp]
      exact .inl ⟨0, y, rfl, by simpa using hy, rfl, rfl⟩
    · have hp : (y.p.1 == n) = false := by show (y.who == n) = false; simpa using hy
      rw [if_neg hy, hp]
      rcases ih with ⟨i, x, h1, h2, h3, h4⟩ | ⟨h3, h4⟩
      · cases hf : r.findIdx? (fun x => x.who == n) with
        | none => rw [hf] at h3; exact absurd h3 (by show ¬ (-1 : Int) = _; omega)
        | some j =>
          rw [hf] at h3
          have : j = i := by have h3 : (j : Int) = i := h3; omega
          subst this
          exact .inl ⟨j + 1, x, h1, h2, rfl, h4⟩
      · cases hf : r.findIdx? (fun x => x.who == n) with
        | none => exact .inr ⟨rfl, h4⟩
        | some j => rw [hf] at h3; have h3 : (j : Int) = -1 := h3; omega
section
variable {w w' w1 : World} {o o' o1 : Own} {q k p N m : Nat} {K : Nat → Prop} {R : RS} {S : OS} {b : List UInt8} {a : Option Addr} {c : Nat} {l : List Wr} {cg : Chg} {wa oa : Option Addr} {wc oc : Nat}
theorem Q5L {qc : Nat} (h : EG w o q k R) (hq : w.cell? (blk qc) = some (.pointer (some (blk q)))) (x : Wr) :
    Calls Try.prog 38 #[.agg #[.int .i64 x.who, .slice x.a x.b.length x.c], .pointer (some (blk qc))] w (Ret (.bool (x.who == R.who)) fun w' => Ext no w w') := by
  refine Q0G.run _ _ _ _ _ ?_
  unfold Q0G.N
  exact ⟨_, hq, _, rfl, _, h.who, fun w5 X5 => ⟨rfl, X5⟩⟩
theorem Q5w {qc : Nat} (h : EG w o q k R) (hq : Blk w qc 34 [.pointer (some (blk q))]) (ok : Tags w o) (hr : RowAt w wa (l.flatMap Wr.C)) (hl : l.length < 1000000) :
    Calls Try.prog 39 #[.slice wa l.length wc, .func (.func 38) #[] #[.pointer (some (blk qc))]] w (Ret (.int .i64 (idxW l R.who)) fun w' => Ext no w w') := by
  refine Q08.run _ _ _ _ _ _ ?_
  unfold Q08.N
  refine ⟨fun m vs w1 => ∃ t : Nat, vs = [.int .i64 t] ∧ m + t = l.length ∧ Ext no w w1 ∧ ∀ i x, i < t → l[i]? = some x → (x.who == R.who) = false, l.length, ⟨0, rfl, rfl, Ext.refl _ _, fun i x h => absurd h (by omega)⟩, ?_⟩
  rintro m w6 i ⟨t, hi, hm, X6, hn⟩
  simp only [List.cons.injEq, Value.int.injEq, true_and, and_true] at hi
  subst hi
  refine ⟨fun ht => ?_, fun ht => ?_⟩
  · have htl : t < l.length := by omega
    have hg : l[t]? = some l[t] := List.getElem?_eq_getElem htl
    generalize l[t] = x at *
    have hr6 := hr.no X6
    obtain ⟨ad, rfl⟩ := hr6.faddr Wr.len (by decide) htl
    have s6 := Step.of_no X6 ok
    refine ⟨ad, rfl, by omega, by omega, x.who, x.a, x.b.length, x.c, by rw [Int.toNat_natCast]; exact hr6.floads Wr.len hg, by kernel_rfl, ?_⟩
    refine Calls.mono (Q5L (h.step s6 id) ((hq.ext X6 id).cella (i := 0) rfl) x) fun u w14 ⟨he, X14⟩ => ⟨_, he, fun hy => ?_, fun hno => ⟨by omega, by omega, m - 1, by omega, t + 1, rfl, by omega, X6.trans X14, fun i y hi hy => ?_⟩⟩
    · have : idxW l R.who = (t : Int) := by
        unfold idxW
        have hf : l.findIdx? (fun x => x.who == R.who) = some t := by
          rw [List.findIdx?_eq_some_iff_getElem]
          refine ⟨htl, ?_, fun j hj => ?_⟩
          · rw [List.getElem?_eq_getElem htl] at hg
            rw [Option.some.inj hg]; exact hy
          · rw [hn j _ hj (List.getElem?_eq_getElem (by omega))]; decide
        rw [hf]
      rw [this]
      exact ⟨rfl, X6.trans X14⟩
    · by_cases hit : i = t
      · subst hit
        rw [hg] at hy
        cases hy
        exact hno
      · exact hn i y (by omega) hy
  · have : idxW l R.who = -1 := by
      unfold idxW
      have hf : l.findIdx? (fun x => x.who == R.who) = none := by
        rw [List.findIdx?_eq_none_iff]
        intro y hy
        obtain ⟨i, hi⟩ := List.mem_iff_getElem?.1 hy
        exact hn i y (by have := (List.getElem?_eq_some_iff.1 hi).1; omega) hi
      rw [hf]
    rw [this]
    exact ⟨rfl, X6⟩
theorem Q3E {Φ : World → Prop} {qc pp : Nat} {x v : Int} (h : EG w o q k R) (hP : POrc w o k S) (ok : Tags w o) (hqk : q ≠ k) (hS : Short S) (hl : R.keys.length = R.olds.length) (h1 : R.keys.length < 1000) (hol : ∀ b ∈ R.olds, b.length < 1000000)
    (hq : Blk w qc 34 [.pointer (some (blk q))] ∧ o qc = none) (M : Mine [pp] w o) (hpq : pp ≠ q) (hold : Row w o oa (bytesV b)) (hb : b.length < 1000000) (hv : x = v)
    (hΦ : ∀ w' o', Step (fun j => j = q) w o w' o' → EG w' o' q k { R with keys := backK S (R.olds ++ [b]) R.keys.length (R.keys ++ [x]), olds := R.olds ++ [b] } → Φ w') :
    ∃ (x52 : Option Addr), w.cell? (blk qc) = some (.pointer x52) ∧
    ∃ (x54 : Option Addr), w.cell? (blk qc) = some (.pointer x54) ∧
    ∃ a55 : Addr, x54 = some a55 ∧
    ∃ (keys57a : Option Addr) (keys57n keys57c : Nat), w.cell? (a55.add 3) = some (.slice keys57a keys57n keys57c) ∧
    ∀ (ww58 : World) (q59 : Nat), Ext no w ww58 → Blk ww58 q59 27 [.int .u64 v] → w.heap.size ≤ q59 → q59 < ww58.heap.size →
    ww58.cell? (a55.add 3) = some (.slice keys57a keys57n keys57c) ∧
    ww58.cell? (blk qc) = some (.pointer x54) ∧
    ww58.cell? (blk qc) = some (.pointer x52) ∧
    ∃ (a63a : Option Addr) (a63n a63c : Nat) (ww64 : World), (Builtin.append_ #[22, 22] 22 #[.slice keys57a keys57n keys57c, .slice (some (blk q59)) 1 1]).run Try.prog ww58 = .ok (.slice a63a a63n a63c) ww64 ∧
    Keep [pp] ww58 ww64 ∧
    ww64.cell? (blk qc) = some (.pointer x52) ∧
    ∃ a66 : Addr, x52 = some a66 ∧
    Q07 ww64 ((a66.add 3).add 0) ∧
    (∀ p ∈ [pp], p ≠ Addr.block (a66.add 3)) ∧
    thenW (ww64.setCell ((a66.add 3).add 0) (.slice a63a a63n a63c)) fun ww67 =>
    ∃ (x70 : Option Addr), ww67.cell? (blk qc) = some (.pointer x70) ∧
    ∃ (x72 : Option Addr), ww67.cell? (blk qc) = some (.pointer x72) ∧
    ∃ a73 : Addr, x72 = some a73 ∧
    ∃ (olds75a : Option Addr) (olds75n olds75c : Nat), ww67.cell? (a73.add 4) = some (.slice olds75a olds75n olds75c) ∧
    ∀ (ww68 : World), Ext no ww67 ww68 →
    Calls Try.prog 40 #[.slice oa b.length oc] ww68 fun ee77 ww78 => ∃ (clone76a : Option Addr) (clone76n clone76c : Nat), ee77 = .returned (.slice clone76a clone76n clone76c) ∧
    ww78.cell? (a73.add 4) = some (.slice olds75a olds75n olds75c) ∧
    ww78.cell? (blk qc) = some (.pointer x72) ∧
    ww78.cell? (blk qc) = some (.pointer x70) ∧
    ∀ (ww82 : World) (q83 : Nat), Ext no ww78 ww82 → Blk ww82 q83 29 [.slice clone76a clone76n clone76c] → ww78.heap.size ≤ q83 → q83 < ww82.heap.size →
    ww82.cell? (a73.add 4) = some (.slice olds75a olds75n olds75c) ∧
    ww82.cell? (blk qc) = some (.pointer x72) ∧
    ww82.cell? (blk qc) = some (.pointer x70) ∧
    ∃ (a87a : Option Addr) (a87n a87c : Nat) (ww88 : World), (Builtin.append_ #[83, 83] 83 #[.slice olds75a olds75n olds75c, .slice (some (blk q83)) 1 1]).run Try.prog ww82 = .ok (.slice a87a a87n a87c) ww88 ∧
    ww88.cell? (blk qc) = some (.pointer x70) ∧
    ∃ a90 : Addr, x70 = some a90 ∧
    Q07 ww88 ((a90.add 4).add 0) ∧
    thenW (ww88.setCell ((a90.add 4).add 0) (.slice a87a a87n a87c)) fun ww91 =>
    ∃ (x93 : Option Addr), ww91.cell? (blk qc) = some (.pointer x93) ∧
    Calls Try.prog 41 #[.pointer x93] ww91 fun ee94 ww95 => ee94 = .returned (.tuple #[]) ∧
    Φ ww95 := by
  subst hv
  obtain ⟨ka, kc, hc3⟩ := h.keysC
  have cq : ∀ {w' : World} {o' : Own} {K : Nat → Prop}, Step K w o w' o' → w'.cell? (blk qc) = some (.pointer (some (blk q))) := fun s => (Q1I hq s).1.cella (i := 0) rfl
  have cq0 := cq (Step.refl no ok)
  have hkq : ¬ k = q := fun e => hqk e.symm
  refine ⟨_, cq0, _, cq0, _, rfl, _, _, _, hc3, fun w58 q59 X58 b58 hq59 hq59' => ?_⟩
  have s58 := Step.of_no X58 ok
  have h58 := h.step s58 id
  refine ⟨X58.cell hc3 id, cq s58, cq s58, ?_⟩
  obtain ⟨a6, n6, c6, w64, o64, hrun, s64, hcan, hst⟩ := h58.pushKey s58.ok (by omega) x b58 (X58.cell hc3 id)
  have s64' := s58.none.trans s64
  refine ⟨a6, n6, c6, w64, hrun, (M.step s58).keep s64 (fun p hp => by rw [List.mem_singleton.1 hp]; exact hpq), cq s64', _, rfl, ?_⟩
  have a30 : ((blk q).add 3).add 0 = (blk q).add 3 := by rw [add_add]
  rw [a30]
  refine ⟨hcan, fun p hp => by rw [List.mem_singleton.1 hp, Q0a]; exact hpq, Q01 fun w67 e67 => ?_⟩
  obtain ⟨s67, E67⟩ := hst w67 e67
  have s67' := s58.none.trans s67
  obtain ⟨oa1, oc1, hc4⟩ := E67.oldsC
  refine ⟨_, cq s67', _, cq s67', _, rfl, _, _, _, hc4, fun w68 X68 => ?_⟩
  have s68 := Step.of_no X68 s67'.ok
  refine (Q1y ((hold.step s67').step s68).1 (by omega)).mono fun u w78 ⟨ca, cc, he, hcc, hcr, X78, hcf⟩ => ⟨_, _, _, he, ?_⟩
  have s78 := Step.of_no X78 s68.ok
  have s678 := s68.trans s78
  have s78' := s67'.trans s678.none
  have X6778 := X68.trans X78
  have bsx : BSk w78 (grow w68 (grow w67 (grow w64 o64))) ⟨ca, cc, b⟩ := ⟨Row.fresh hcr fun ad ha => (hcf ad ha).1, hcc⟩
  refine ⟨X6778.cell hc4 id, cq s78', cq s78', fun w82 q83 X82 b82 hq83 hq83' => ?_⟩
  have s82 := Step.of_no X82 s78.ok
  have s82' := s78'.trans s82.none
  have E82 := (E67.step s678 id).step s82 id
  refine ⟨(X6778.trans X82).cell hc4 id, cq s82', cq s82', ?_⟩
  obtain ⟨a8, n8, c8, w88, o88, hrun8, s88, hcan8, hst8⟩ := E82.pushOld s82.ok (by show R.olds.length < 1000000; omega) (bsx.step s82) b82 ((X6778.trans X82).cell hc4 id)
  have s88' := s82'.trans s88
  have a40 : ((blk q).add 4).add 0 = (blk q).add 4 := by rw [add_add]
  refine ⟨a8, n8, c8, w88, hrun8, cq s88', _, rfl, ?_⟩
  rw [a40]
  refine ⟨hcan8, Q01 fun w91 e91 => ?_⟩
  obtain ⟨s91, E91⟩ := hst8 w91 e91
  have s91' := s82'.trans s91
  refine ⟨_, cq s91', ?_⟩
  have E91 : EG w91 (grow w88 o88) q k { R with keys := R.keys ++ [x], olds := R.olds ++ [b] } := E91
  have hlen : (R.keys ++ [x]).length = R.keys.length + 1 := by simp
  have bk := Q62 E91 (hP.step s91' hkq) s91'.ok hqk hS (by show (R.keys ++ [x]).length = (R.olds ++ [b]).length; simp [hl]) (by show 0 < (R.keys ++ [x]).length; omega) (by show (R.keys ++ [x]).length < _; omega) (fun y hy => by
    rcases List.mem_append.1 hy with hy | hy
    · exact hol y hy
    · rw [List.mem_singleton.1 hy]; exact hb)
  refine Calls.mono bk fun u w95 ⟨he, o95, s95, E95⟩ => ⟨he, hΦ w95 o95 (s91'.trans s95) ?_⟩
  have E95 : EG w95 o95 q k { R with keys := backK S (R.olds ++ [b]) ((R.keys ++ [x]).length - 1) (R.keys ++ [x]), olds := R.olds ++ [b] } := E95
  rw [hlen, Nat.add_sub_cancel] at E95
  exact E95
theorem Q2w (h : EG w o q k R) (hP : POrc w o k S) (ok : Tags w o) (hqk : q ≠ k) (hS : Short S) (hl : R.keys.length = R.olds.length) (h1 : R.keys.length < 1000) (hol : ∀ b ∈ R.olds, b.length < 1000000) (hC : CH w o cg wa wc l oa oc) :
    Calls Try.prog 11 #[.pointer (some (blk q)), chgV cg wa wc oa oc] w (Ret (.int .i64 (learnK S R cg).2) fun w' => ∃ o', Step (fun j => j = q) w o w' o' ∧ EG w' o' q k (learnK S R cg).1) := by
  refine Q0m.run _ _ _ _ _ _ _ _ _ _ _ ?_
  unfold Q0m.N
  intro w8 qc X8 b8 hqc hqc'
  have s8 := Step.of_no X8 ok
  have hq8 : Blk w8 qc 34 [.pointer (some (blk q))] ∧ grow w o qc = none := ⟨b8, grow_ge hqc⟩
  have bad : ∀ (k2 : Int) (w9 : World) (o9 : Own), learnK S R cg = (R, k2) → Step no w o w9 o9 → Value.int .i64 k2 = .int .i64 (learnK S R cg).2 ∧ ∃ o', Step (fun j => j = q) w o w9 o' ∧ EG w9 o' q k (learnK S R cg).1 := fun k2 w9 o9 hK s9 => by
    rw [hK]; exact ⟨rfl, o9, s9.none, h.step s9 id⟩
  have hlen : cg.ws.length = l.length := by rw [← hC.m]; simp
  refine ⟨_, b8.cella (i := 0) rfl, fun e => (by cases e), fun _ => ⟨fun hk w10 X10 => ?_, fun hk w10 pp X10 P10 => ?_⟩⟩
  · exact bad 1 w10 _ (by unfold learnK; rw [if_pos (.inl hk)]) (s8.trans (Step.of_no X10 s8.ok))
  obtain ⟨s10', M10⟩ := Step.priv X10 P10 s8.ok
  have s10 := s8.trans s10'
  have hpp := P10 pp (by simp)
  have l8 := X8.size
  have hql := h.lt
  have hpq : pp ≠ q := by omega
  have R10 := Q3B (w := w10) (cg := cg) (wa := wa) (oa := oa) (wc := wc) (oc := oc) (hC.step s10).ws.1 hC.m hC.n hC.ol
  refine Calls.mono R10 fun u w20 ⟨he, X20⟩ => ⟨_, he, (M10.keep (Step.of_no X20 s10'.ok) fun _ _ h => h), fun hr => ?_, fun hr => ?_⟩
  · exact bad 1 w20 _ (by unfold learnK; rw [if_pos (.inr hr)]) (s10.trans (Step.of_no X20 s10.ok))
  have t20 := Step.of_no X20 s10.ok
  have s20 := s10.trans t20
  have M20 := M10.step t20
  have E20 := h.step s20 id
  have hq20 := Q1I (Q1I hq8 s10') t20
  obtain ⟨ka, kc, hc3⟩ := E20.keysC
  refine ⟨_, hq20.1.cella (i := 0) rfl, _, rfl, _, _, _, hc3, fun h20 => ?_, fun h20 => ?_⟩
  · exact bad 3 w20 _ (by unfold learnK; rw [if_neg (by rw [hr]; simp [hk]), if_pos (by omega)]) s20
  have hK : learnK S R cg = ({ R with keys := backK S (R.olds ++ [cg.old]) R.keys.length (R.keys ++ [(toldBy S R cg).1]), olds := R.olds ++ [cg.old] }, (toldBy S R cg).2) := by
    unfold learnK; rw [if_neg (by rw [hr]; simp [hk]), if_neg (by omega)]
  have hCw := (hC.step s20).ws.1
  have ix := Q5w (wc := wc) E20 hq20.1 s20.ok hCw hC.n
  rw [hlen]
  refine Calls.mono ix fun u w30 ⟨he, X30⟩ => ⟨_, he, M20.keep (Step.of_no X30 s20.ok) (fun _ _ h => h), ?_⟩
  have t30 := Step.of_no X30 s20.ok
  have s30 := s20.trans t30
  have M30 := M20.step t30
  have E30 := h.step s30 id
  have P30 := hP.step s30 id
  have C30 := hC.step s30
  have hq30 := Q1I hq20 t30
  have fin : ∀ (x : Int) (w9 : World) (o9 : Own), (toldBy S R cg).2 = x → ∀ (w1 : World) (o1 : Own), Step no w o w1 o1 → Step (fun j => j = q) w1 o1 w9 o9 → EG w9 o9 q k { R with keys := backK S (R.olds ++ [cg.old]) R.keys.length (R.keys ++ [(toldBy S R cg).1]), olds := R.olds ++ [cg.old] } → Value.int .i64 x = .int .i64 (learnK S R cg).2 ∧ ∃ o', Step (fun j => j = q) w o w9 o' ∧ EG w9 o' q k (learnK S R cg).1 := fun x w9 o9 hx w1 o1 s1 s9 E9 => by
    rw [hK, ← hx]; exact ⟨rfl, o9, s1.none.trans s9, E9⟩
  refine ⟨fun hge => ?_, fun hlt => ?_⟩
  · rcases Q3w l R.who with ⟨i, x, g1, g2, g3, g4⟩ | ⟨g3, g4⟩
    · have ht : toldBy S R cg = Q11 S R.secret x.b := by unfold toldBy; rw [← hC.m, g4]; rfl
      have hil := (List.getElem?_eq_some_iff.1 g1).1
      obtain ⟨ad, had⟩ := C30.ws.1.faddr Wr.len (by decide) hil
      have hw30 := C30.ws.1
      rw [had] at hw30
      have cB : w30.cell? ((ad.add (i * 2)).add 1) = some (.slice x.a x.b.length x.c) := hw30.fcell Wr.len g1 1 rfl
      rw [g3]
      refine ⟨_, hq30.1.cella (i := 0) rfl, _, rfl, _, E30.orc, _, hq30.1.cella (i := 0) rfl, _, rfl, _, E30.secret, ad, had, by omega, by omega, _, _, _, by rw [Int.toNat_natCast]; exact cB, fun w32 X32 => ?_⟩
      have t32 := Step.of_no X32 s30.ok
      have s32 := s30.trans t32
      obtain ⟨x1, x2, x3⟩ := (hC.step s32).bs x (List.mem_of_getElem? g1)
      refine Calls.mono (UnwrapO (hP.step s32 id) R.secret x1.1 x3 x2) fun u w49 ⟨he, X49⟩ => ⟨_, _, he, (M30.step t32).keep (Step.of_no X49 s32.ok) (fun _ _ h => h), ?_⟩
      have t49 := Step.of_no X49 s32.ok
      have s49 := s32.trans t49
      have M49 := (M30.step t32).step t49
      refine Q3E (h.step s49 id) (hP.step s49 id) s49.ok hqk hS hl h1 hol (Q1I (Q1I hq30 t32) t49) M49 hpq (hC.step s49).old hC.ol (show (toldBy S R cg).1 = (Q11 S R.secret x.b).1 by rw [ht]) fun w9 o9 s9 E9 => ?_
      exact fin _ w9 o9 (by rw [ht]) _ _ s49 s9 E9
    · rw [g3] at hge; exact absurd hge (by decide)
  · rcases Q3w l R.who with ⟨i, x, g1, g2, g3, g4⟩ | ⟨g3, g4⟩
    · rw [g3] at hlt; omega
    · have ht : toldBy S R cg = (0, 11) := by unfold toldBy; rw [← hC.m, g4]
      refine Q3E E30 P30 s30.ok hqk hS hl h1 hol hq30 M30 hpq C30.old hC.ol (show (toldBy S R cg).1 = 0 by rw [ht]) fun w9 o9 s9 E9 => ?_
      exact fin _ w9 o9 (by rw [ht]) _ _ s30 s9 E9
end
open W (OwnB GivesW)
def only (k : Nat) (w : World) (o o' : Own) : Own := fun b => if b < w.heap.size then o b else if o' b = some k then some k else none
section
variable {w0 w w' w1 : World} {o0 o o' o1 : Own} {q k p N m : Nat} {K : Nat → Prop} {S : OS} {b : List UInt8} {a : Option Addr} {c : Nat} {cs : List Value}
theorem only_k (s : Step K w0 o0 w o) {b : Nat} (h : o b = some k) : only k w0 o0 o b = some k := by
  unfold only
  split
  · rename_i hb; rw [← s.same b hb]; exact h
  · first | rfl | rw [if_pos h]
theorem only_of (s : Step K w0 o0 w o) {b j : Nat} (h : only k w0 o0 o b = some j) : o b = some j := by
  unfold only at h
  split at h
  · rename_i hb; rw [s.same b hb]; exact h
  · split at h
    · rename_i h2; rw [h2, ← h]
    · cases h
theorem Q5E (s : Step K w0 o0 w o) {b : Nat} (h : o b = none) : only k w0 o0 o b = none := by
  cases hc : only k w0 o0 o b with
  | none => rfl
  | some j => rw [only_of s hc] at h; cases h
theorem Q1Y (s : Step K w0 o0 w o) (k : Nat) : Step K w0 o0 w (only k w0 o0 o) :=
  ⟨s.ext, fun b hb => if_pos hb, s.ok0, fun b j hb hj => s.ok b j hb (only_of s hj)⟩
theorem Q1w (h : Row w o a cs) (s : Step K w0 o0 w o) (k : Nat) : Row w (only k w0 o0 o) a cs := ⟨h.1, fun h0 ad ha => Q5E s (h.2 h0 ad ha)⟩
theorem Q2m {e : TypeId} {size n : Nat} (h : LRow e size N w o a n c cs) (s : Step K w0 o0 w o) (hN : w0.heap.size ≤ N) (hk : k < N) : Row w (only k w0 o0 o) a cs := ⟨h.row, fun h0 ad ha => by
  rcases h with ⟨h1, h2, h3, h4⟩ | ⟨j, hj, hjw, g⟩
  · exact absurd h4 h0
  · have hg := g.tg ad ha
    show (if ad.block < w0.heap.size then o0 ad.block else if o ad.block = some k then some k else none) = none
    split
    · rename_i hb
      rw [s.same _ hb] at hg
      have := s.ok0 _ _ hb hg.1
      omega
    · rw [if_neg (fun e => by rw [hg.1] at e; cases e; omega)]⟩
theorem POrc.only (h : POrc w o k S) (s : Step K w0 o0 w o) : POrc w (only k w0 o0 o) k S := by
  obtain ⟨g, rfl, h1, h2, h3⟩ := h
  exact ⟨g, rfl, h1, fun b hb => only_k s (h2 b hb), fun b hb j hj hne => h3 b hb j (only_of s hj) hne⟩
theorem WRow.push {l : List Wr} (h : WRow N w o a c l) (ok : Tags w o) (hl : l.length < 1000000) (x : Wr) {q : Nat} (hb : Blk w q 60 x.C) (hq : N ≤ q) (hq' : q < w.heap.size) :
    ∃ a' n' c' w' o', (Builtin.append_ #[50, 50] 50 #[.slice a l.length c, .slice (some (blk q)) 1 1]).run Try.prog w = .ok (.slice a' n' c') w' ∧ n' = (l ++ [x]).length ∧ Step (fun j => N ≤ j) w o w' o' ∧ WRow N w' o' a' c' (l ++ [x]) ∧ Ext (fun b => ∃ ad, a = some ad ∧ b = ad.block) w w' := by
  obtain ⟨i, hi, hz, hsz, hby⟩ := info_of inf60
  obtain ⟨a', c', w', o', hrun, s2, hrow, hX⟩ := LRow.push (ty := 50) Try.underlying50 hi hz hsz hby rfl (by decide) h ok hq hq' (xa := some (blk q)) (m := 1) (xc := 1) (news := x.C) rfl (RowAt.of_blk hb) (fun u hu => by
    simp [Wr.C] at hu
    rcases hu with rfl | rfl <;> rfl) (by omega) (by omega)
  refine ⟨a', _, c', w', o', hrun, by simp, s2, ?_, hX⟩
  unfold WRow
  rw [List.length_append, List.flatMap_append]
  simpa using hrow
end

def wrapsL (S : OS) (key : Int) : List Mem → OS × List (Int × List UInt8)
  | [] => (S, [])
  | m :: r => ((wrapsL (wrapOf S m.pub key).2 key r).1, (m.who, (wrapOf S m.pub key).1.1) :: (wrapsL (wrapOf S m.pub key).2 key r).2)
theorem Q2i (key : Int) (m : Mem) : ∀ (l : List Mem) (S : OS), wrapsL S key (l ++ [m]) = ((wrapOf (wrapsL S key l).1 m.pub key).2, (wrapsL S key l).2 ++ [(m.who, (wrapOf (wrapsL S key l).1 m.pub key).1.1)])
  | [], S => rfl
  | x :: r, S => by
    have ih := Q2i key m r (wrapOf S x.pub key).2
    show ((wrapsL (wrapOf S x.pub key).2 key (r ++ [m])).1, (x.who, (wrapOf S x.pub key).1.1) :: (wrapsL (wrapOf S x.pub key).2 key (r ++ [m])).2) = _
    rw [ih]
    rfl
def beginK (S : OS) (s : MS) (last : Int) : Chg × Int × OS :=
  let S1 := (keyOf S).2
  let key := (keyOf S).1
  let W := wrapsL S1 key (nowM s.ml)
  if 0 ≤ s.ep then (⟨3, 0, 0, 0, W.2, (sealOf W.1 key (boundL (s.ep + 1)) (boxL last.toNat 0)).1.1⟩, key, (sealOf W.1 key (boundL (s.ep + 1)) (boxL last.toNat 0)).2)
  else (⟨3, 0, 0, 0, W.2, []⟩, key, W.1)
theorem Q5k (S : OS) (p key : Int) : (wrapOf S p key).2.publics = S.publics ∧ (wrapOf S p key).2.keys = S.keys ∧ (wrapOf S p key).2.secrets = S.secrets ∧ (wrapOf S p key).2.sealed = S.sealed := by
  have hf := Q0S S
  unfold wrapOf
  split
  · split
    · exact ⟨hf.2.2.2.1, hf.2.1, hf.2.2.1, by first | exact hf.2.2.2.2.2.2.1 | exact hf.2.2.2.2.1 | exact hf.2.2.2.2.2.1⟩
    · exact ⟨rfl, rfl, rfl, rfl⟩
  · exact ⟨rfl, rfl, rfl, rfl⟩
theorem Q1Z (key : Int) : ∀ (l : List Mem) (S : OS), S.ok → (wrapsL S key l).1.publics = S.publics ∧ (wrapsL S key l).1.keys = S.keys ∧ (wrapsL S key l).1.secrets = S.secrets ∧ (wrapsL S key l).1.sealed = S.sealed ∧ (wrapsL S key l).1.ok ∧ (wrapsL S key l).1.used.length ≤ S.used.length + l.length ∧ (wrapsL S key l).2.length = l.length
  | [], S, h => ⟨rfl, rfl, rfl, rfl, h, Nat.le_refl _, rfl⟩
  | m :: r, S, h => by
    obtain ⟨f1, f2, f3, f4⟩ := Q5k S m.pub key
    obtain ⟨k1, k2⟩ := Q5C h m.pub key
    obtain ⟨g1, g2, g3, g4, g5, g6, g7⟩ := Q1Z key r (wrapOf S m.pub key).2 k1
    refine ⟨g1.trans f1, g2.trans f2, g3.trans f3, g4.trans f4, g5, ?_, ?_⟩
    · show (wrapsL (wrapOf S m.pub key).2 key r).1.used.length ≤ S.used.length + (r.length + 1); omega
    · show (wrapsL (wrapOf S m.pub key).2 key r).2.length + 1 = r.length + 1; omega
theorem Q3q (S : OS) : (keyOf S).2.publics = S.publics ∧ (keyOf S).2.secrets = S.secrets ∧ (keyOf S).2.sealed = S.sealed ∧ (keyOf S).2.wrapped = S.wrapped ∧ (keyOf S).2.keys = badd S.keys (keyOf S).1 := by
  have hf := Q0S S
  unfold keyOf
  exact ⟨hf.2.2.2.1, hf.2.2.1, by first | exact hf.2.2.2.2.2.2.1 | exact hf.2.2.2.2.1 | exact hf.2.2.2.2.2.1, by first | exact hf.2.2.2.2.2.2.2 | exact hf.2.2.2.2.2.1 | exact hf.2.2.2.2.2.2.2.1, rfl⟩
theorem Q3m {S : OS} {p key : Int} (hp : (alook S.publics p).isSome) (hk : key ∈ S.keys) : wrapOf S p key = ((boxL (freshOf S).1.toNat 8, 0), { (freshOf S).2 with wrapped := aput S.wrapped (freshOf S).1 (p, key) }) := by
  unfold wrapOf
  rw [if_pos hp, if_pos hk]
theorem key_in (S : OS) : (keyOf S).1 ∈ (keyOf S).2.keys := by
  rw [(Q3q S).2.2.2.2]
  exact Q1D.2 (.inr rfl)
section
variable {w w' w1 : World} {o o' o1 : Own} {q k p N m : Nat} {K : Nat → Prop} {S : OS} {s : MS} {a : Option Addr} {c : Nat}
theorem Q2v (hP : POrc w o k S) (ok : Tags w o) (hS : S.ok) (hlen : S.used.length + 20 < 1000000) (hr : Row w o a (s.ml.flatMap Mem.C)) (hs : s.ok) {last : Int} (hl0 : 0 ≤ last) (hl1 : last < 18446744073709551616)
    (hpub : ∀ m ∈ nowM s.ml, (alook S.publics m.pub).isSome) (hne : nowM s.ml ≠ []) :
    Calls Try.prog 9 #[.pointer (some (blk k)), .agg #[.slice a s.ml.length c, .int .i64 s.ep], .int .u64 last] w (fun x w' => ∃ o' wa wc oa oc, ∃ l : List Wr, x = .returned (.tuple #[chgV (beginK S s last).1 wa wc oa oc, .int .u64 (beginK S s last).2.1, .int .i64 0]) ∧ Step (fun j => j = k) w o w' o' ∧ POrc w' o' k (beginK S s last).2.2 ∧ CH w' o' (beginK S s last).1 wa wc l oa oc ∧ l.length ≤ wc ∧ (beginK S s last).1.old.length ≤ oc) := by
  refine (Q0T.go _ _ _ _ _ _ (R := fun v w' => ∃ o' wa wc oa oc, ∃ l : List Wr, v = (.tuple #[chgV (beginK S s last).1 wa wc oa oc, .int .u64 (beginK S s last).2.1, .int .i64 0]) ∧ Step (fun j => j = k) w o w' o' ∧ POrc w' o' k (beginK S s last).2.2 ∧ CH w' o' (beginK S s last).1 wa wc l oa oc ∧ l.length ≤ wc ∧ (beginK S s last).1.old.length ≤ oc) ?_).mono fun x w' ⟨v, he, o', wa, wc, oa, oc, l, hv, hw⟩ => ⟨o', wa, wc, oa, oc, l, by rw [he, hv], hw⟩
  unfold Q0T.N
  have hkl := hP.lt
  have hml := hs.le
  have hnl : (nowM s.ml).length ≤ 8 := Nat.le_trans (List.length_filter_le _ _) hml
  refine ⟨fun e => (by cases e), fun _ w6 p1 p2 X6 P6 => ?_⟩
  obtain ⟨s6, M6⟩ := Step.priv X6 P6 ok
  have g6 : ∀ p ∈ [p1, p2], w.heap.size ≤ p ∧ p < w6.heap.size := P6
  have gp1 := g6 p1 (by simp)
  have gp2 := g6 p2 (by simp)
  have kM : ∀ p ∈ [p1, p2], ¬ p = k := fun p hp => by have := (g6 p hp).1; omega
  refine Calls.mono (KeyO (hP.step s6 id) s6.ok hS (by omega)) fun u w20 ⟨o20, he, s20', P20⟩ => ⟨_, he, M6.keep s20' kM, fun w21 X21 => ?_⟩
  have M20 := M6.step s20'
  have s20 : Step (fun j => j = k) w o w20 o20 := s6.none.trans s20'
  obtain ⟨o21, s21'⟩ := Step.store1 X21 s20.ok (M20 p2 (by simp)).2
  have s21 : Step (fun j => j = k) w o w21 o21 := s20.trans' s21' fun i hi => .inr (by rw [hi]; exact gp2.1)
  have M21 := M20.step s21'
  have P21 := P20.step s21' (show ¬ k = p2 by omega)
  have r21 := hr.step s21
  refine Calls.mono (Q5a r21 s21.ok (by omega) s.ep) fun u w24 ⟨o24, na, nc, he, s24', r24, hnc⟩ => ⟨_, _, _, he, M21.keep s24' (fun _ _ h => h), ?_⟩
  have s24 := s21.trans s24'.none
  have M24 := M21.step s24'
  have P24 := P21.step s24' id
  obtain ⟨key, hkey⟩ : ∃ key, (keyOf S).1 = key := ⟨_, rfl⟩
  obtain ⟨S1, hS1⟩ : ∃ S1, (keyOf S).2 = S1 := ⟨_, rfl⟩
  have ok1 := Q50 hS
  have kf := Q3q S
  have kin := key_in S
  rw [hS1] at ok1 P24 kf kin
  rw [hkey] at kin
  obtain ⟨nl, hnow⟩ : ∃ nl, nowM s.ml = nl := ⟨_, rfl⟩
  have hB : beginK S s last = if 0 ≤ s.ep then (⟨3, 0, 0, 0, (wrapsL S1 key nl).2, (sealOf (wrapsL S1 key nl).1 key (boundL (s.ep + 1)) (boxL last.toNat 0)).1.1⟩, key, (sealOf (wrapsL S1 key nl).1 key (boundL (s.ep + 1)) (boxL last.toNat 0)).2)
      else (⟨3, 0, 0, 0, (wrapsL S1 key nl).2, []⟩, key, (wrapsL S1 key nl).1) := by
    unfold beginK
    rw [hS1, hkey, hnow]
  rw [hnow] at r24 hnc hnl hpub hne
  rw [hnow, hkey]
  obtain ⟨N, hN⟩ : ∃ N, w6.heap.size = N := ⟨_, rfl⟩
  have l6 := X6.size
  have l620 := s20'.size
  have l2021 := s21'.size
  have l2124 := s24'.size
  refine ⟨fun m vs w1 => ∃ (t : Nat) (o1 : Own) (a1 : Option Addr) (c1 : Nat) (l : List Wr), vs = [.int .u64 key, .int .i64 t, .int .i64 3, .int .i64 0, .int .u64 0, .int .i64 0, .slice a1 l.length c1, .slice none 0 0] ∧ m + t = nl.length ∧ Step (fun j => j = k) w o w1 o1 ∧ POrc w1 o1 k (wrapsL S1 key (nl.take t)).1 ∧ Mine [p1, p2] w1 o1 ∧ Row w1 o1 na (nl.flatMap Mem.C) ∧ WRow N w1 o1 a1 c1 l ∧ l.map Wr.p = (wrapsL S1 key (nl.take t)).2 ∧ (∀ x ∈ l, Row w1 o1 x.a (bytesV x.b) ∧ x.b.length ≤ x.c ∧ x.b.length < 1000000) ∧ N ≤ w1.heap.size,
    nl.length, ⟨0, o24, none, 0, [], rfl, rfl, s24, P24, M24, r24, LRow.nil _ _ _ _ _, rfl, fun x hx => (by cases hx), by omega⟩, ?_⟩
  intro m w35 i0 i1 i2 i3 i4 i5 i6a i6n i6c i7a i7n i7c hI
  obtain ⟨t, o35, a1, c1, l, hi, hm, s35, P35, M35, r35, L35, hlm, hlb, hNs⟩ := hI
  simp only [List.cons.injEq, Value.slice.injEq, Value.int.injEq, true_and, and_true] at hi
  obtain ⟨hkk, rfl, rfl, rfl, rfl, rfl, ⟨rfl, rfl, rfl⟩, rfl, rfl, rfl⟩ := hi
  replace hkk := hkk.symm
  subst hkk
  have fr := Q1Z key (nl.take t) S1 ok1.1
  have htl0 : (nl.take t).length ≤ 8 := by rw [List.length_take]; omega
  have hll : l.length = (nl.take t).length := by have := congrArg List.length hlm; rw [List.length_map] at this; rw [this]; exact fr.2.2.2.2.2.2
  have hus := ok1.2
  refine ⟨fun ht => ?_, fun ht => ?_⟩
  · have htl : t < nl.length := by omega
    have hg : nl[t]? = some nl[t] := List.getElem?_eq_getElem htl
    have hmem := List.getElem_mem htl
    have htk : nl.take (t + 1) = nl.take t ++ [nl[t]] := by rw [List.take_add_one, hg]; rfl
    generalize nl[t] = x at *
    have hr1 := r35.1
    obtain ⟨ad, rfl⟩ := hr1.faddr Mem.len (by decide) htl
    refine ⟨ad, rfl, by omega, by omega, x.who, x.pub, x.fr, x.to_, x.lim, by rw [Int.toNat_natCast]; exact hr1.floads Mem.len hg, fun w49 p50 X49 P49 => ?_⟩
    obtain ⟨s49', M49⟩ := Step.priv X49 P49 s35.ok
    have g50 := P49 p50 (by simp)
    have M3 : Mine [p1, p2, p50] w49 (tags w35 o35 [p50]) := fun y hy => by
      rcases List.mem_cons.1 hy with rfl | hy
      · exact (M35.step s49') _ (by simp)
      · rcases List.mem_cons.1 hy with rfl | hy
        · exact (M35.step s49') _ (by simp)
        · exact M49 _ hy
    have hxp : (alook (wrapsL S1 key (nl.take t)).1.publics x.pub).isSome := by rw [fr.1, kf.1]; exact hpub x hmem
    have hxk : key ∈ (wrapsL S1 key (nl.take t)).1.keys := by rw [fr.2.1]; exact kin
    have hw := WrapO (P35.step s49' id) s49'.ok fr.2.2.2.2.1 (by omega) x.pub key
    have hwk := Q3m hxp hxk
    refine Calls.mono hw fun u w54 ⟨o54, xa, xc, he, s54, xr, hxc, P54⟩ => ⟨_, _, _, _, he, M3.keep s54 (fun y hy => ?_), fun hne' => absurd (by rw [hwk]) hne', fun _ w62 q63 X62 b62 hq62 hq62' => ?_⟩
    · rcases List.mem_cons.1 hy with rfl | hy
      · omega
      · rcases List.mem_cons.1 hy with rfl | hy
        · omega
        · rw [List.mem_singleton.1 hy]; omega
    have s3554 := s49'.none.trans s54
    have t62 := Step.of_no X62 s54.ok
    have s62 := s3554.trans t62.none
    have L62 : WRow N w62 _ i6a i6c l := LRow.step L35 s62 fun j hj => .inl (by rw [hj]; omega)
    have l49 := X49.size
    have l54 := s54.size
    obtain ⟨a2, n2, c2, w65, o65, hrun, hn2, s65, L65, X65⟩ := L62.push s62.ok (by omega) ⟨x.who, xa, xc, (wrapOf (wrapsL S1 key (nl.take t)).1 x.pub key).1.1⟩ b62 (by omega) hq62'
    subst hn2
    have M62 := (M35.step s3554).step t62
    refine ⟨a2, _, c2, w65, hrun, M62.keep s65 (fun y hy => by have := (g6 y hy).2; omega), by omega, by omega, fun w66 X66 => ?_⟩
    have M65 := M62.step s65
    obtain ⟨o66, s66⟩ := Step.store1 X66 s65.ok (M65 p2 (by simp)).2
    have hall : Step (fun j => j = k) w o w66 o66 := ((s35.trans s62).trans' s65 fun i hi => .inr (by omega)).trans' s66 fun i hi => .inr (by rw [hi]; exact gp2.1)
    have L66 : WRow N w66 o66 a2 c2 (l ++ [⟨x.who, xa, xc, (wrapOf (wrapsL S1 key (nl.take t)).1 x.pub key).1.1⟩]) := LRow.step L65 s66 fun j hj => .inl (by rw [hj]; omega)
    have hsn := Q2i key x (nl.take t) S1
    refine ⟨m - 1, by omega, t + 1, o66, a2, c2, _, rfl, by omega, hall, ?_, M65.step s66, ((r35.step s62).step s65).step s66, L66, ?_, fun y hy => ?_, by have := X62.size; have := X65.size; have := X66.size; omega⟩
    · rw [htk, hsn]
      exact ((P54.step t62 id).step s65 (show ¬ N ≤ k by omega)).step s66 (show ¬ k = p2 by omega)
    · rw [htk, hsn, List.map_append, hlm]; rfl
    · rcases List.mem_append.1 hy with hy | hy
      · obtain ⟨y1, y2⟩ := hlb y hy
        exact ⟨((y1.step s62).step s65).step s66, y2⟩
      · rw [List.mem_singleton.1 hy]
        exact ⟨((xr.step t62).step s65).step s66, hxc, by rw [hwk, Q16]; decide⟩
  · have htt : t = nl.length := by omega
    subst htt
    rw [List.take_of_length_le (Nat.le_refl _)] at hlm P35 fr hll
    have hll0 : 0 < nl.length := by
      cases nl with
      | nil => exact absurd rfl hne
      | cons _ _ => simp
    refine ⟨fun h0 => absurd h0 (by omega), fun _ => ⟨fun hep => ?_, fun hep w98 X98 => ?_⟩⟩
    · refine ⟨by have := hs.ep1; omega, by have := hs.ep1; omega, ?_⟩
      refine (Q3y (e := s.ep + 1) (by omega) (by have := hs.ep1; omega) w35).mono fun u w78 ⟨ba, bc, he, hO, X78⟩ => ⟨_, _, _, he, ?_⟩
      have t78 := Step.of_no X78 s35.ok
      have Mp2 : Mine [p2] w35 o35 := M35.sub fun p hp => by rw [List.mem_singleton.1 hp]; simp
      refine ⟨Mp2.keep t78 (fun _ _ h => h), ?_⟩
      obtain ⟨ln, rfl⟩ := Int.eq_ofNat_of_zero_le hl0
      refine (Q5z (h := ln) (by omega) w78).mono fun u w81 ⟨ea, ec, he, hE, X81⟩ => ⟨_, _, _, he, ?_⟩
      have t81 := Step.of_no X81 t78.ok
      refine ⟨(Mp2.step t78).keep t81 (fun _ _ h => h), ?_⟩
      have t7881 := t78.trans t81
      have rb : Row w81 _ ba (bytesV (boundL (s.ep + 1))) := (Q2a hO X78 : Row w78 (grow w35 o35) ba _).step t81
      have re : Row w81 _ ea (bytesV (boxL ln 0)) := (Q2a hE X81 : Row w81 (grow w78 (grow w35 o35)) ea _)
      have hse := SealO (P35.step t7881 id) t81.ok fr.2.2.2.2.1 (by omega) key (bc := bc) (pc := ec) rb re (by have := Q4e (s.ep + 1); omega) (by rw [Q16]; decide)
      refine Calls.mono hse fun u w85 ⟨o85, za, zc, he, s85, zr, hzc, P85⟩ => ⟨_, _, _, _, he, ((Mp2.step t78).step t81).keep s85 (fun y hy => by rw [List.mem_singleton.1 hy]; omega), fun w92 X92 => ?_⟩
      have M85 := ((Mp2.step t78).step t81).step s85
      obtain ⟨o92, s92⟩ := Step.store1 X92 s85.ok (M85 p2 (by simp)).2
      have sA := t7881.none.trans s85
      have sB : Step (fun j => j = k ∨ j = p2) w35 o35 w92 o92 := (sA.mono fun _ h _ => .inl h).trans (s92.mono fun _ h _ => .inr h)
      have sW : Step (fun j => j = k) w o w92 o92 := (s35.trans sA).trans' s92 fun i hi => .inr (by rw [hi]; exact gp2.1)
      have L92 : WRow N w92 o92 i6a i6c l := LRow.step L35 sB fun j hj => .inl (by rcases hj with h | h <;> omega)
      have hB2 : beginK S s ((ln : Nat) : Int) = (⟨3, 0, 0, 0, (wrapsL S1 key nl).2, (sealOf (wrapsL S1 key nl).1 key (boundL (s.ep + 1)) (boxL ln 0)).1.1⟩, key, (sealOf (wrapsL S1 key nl).1 key (boundL (s.ep + 1)) (boxL ln 0)).2) := by rw [hB, if_pos hep]; rfl
      rw [hB2]
      have hlw : l.length = (wrapsL S1 key nl).2.length := by rw [← hlm, List.length_map]
      refine ⟨only k w o o92, i6a, i6c, za, zc, l, by rw [hlw]; rfl, Q1Y sW k, (P85.step s92 (show ¬ k = p2 by omega)).only sW, ⟨Q2m L92 sW (by omega) (by omega), hlm, fun x hx => ?_, Q1w (zr.step s92) sW k, ?_, by omega⟩, L92.le, hzc⟩
      · obtain ⟨y1, y2⟩ := hlb x hx
        exact ⟨Q1w (y1.step sB) sW k, y2⟩
      · show (sealOf (wrapsL S1 key nl).1 key (boundL (s.ep + 1)) (boxL ln 0)).1.1.length < 1000000
        unfold sealOf
        split
        · split
          · show (0 : Nat) < _; decide
          · show (boxL _ _).length < _
            rw [Q16]
            have := Q1L (classOf (boxL ln 0).length)
            omega
        · show (0 : Nat) < _; decide
    · obtain ⟨o98, s98⟩ := Step.store1 X98 s35.ok (M35 p2 (by simp)).2
      have sW : Step (fun j => j = k) w o w98 o98 := s35.trans' s98 fun i hi => .inr (by rw [hi]; exact gp2.1)
      have L98 : WRow N w98 o98 i6a i6c l := LRow.step L35 s98 fun j hj => .inl (by rw [hj]; omega)
      have hB2 : beginK S s last = (⟨3, 0, 0, 0, (wrapsL S1 key nl).2, []⟩, key, (wrapsL S1 key nl).1) := by rw [hB, if_neg (by omega)]
      rw [hB2]
      have hlw : l.length = (wrapsL S1 key nl).2.length := by rw [← hlm, List.length_map]
      refine ⟨only k w o o98, i6a, i6c, none, 0, l, by rw [hlw]; rfl, Q1Y sW k, (P35.step s98 (show ¬ k = p2 by omega)).only sW, ⟨Q2m L98 sW (by omega) (by omega), hlm, fun x hx => ?_, Row.nil _ _ _, by show (0 : Nat) < _; decide, by omega⟩, L98.le, Nat.le_refl _⟩
      obtain ⟨y1, y2⟩ := hlb x hx
      exact ⟨Q1w (y1.step s98) sW k, y2⟩
end
open W (OwnB GivesW)
section
variable {w0 w w' w1 : World} {o0 o o' o1 : Own} {q k j p n m : Nat} {K : Nat → Prop} {S : OS} {b x : List UInt8} {a ba pa xa : Option Addr} {c bc pc xc : Nat} {d : List Int} {L : List RRow}
theorem keyInv (h : OInv S) : OInv (keyOf S).2 := by
  obtain ⟨f1, f2, f3, f4, f5⟩ := Q1G h
  exact ⟨f1.ok, f1.rng, f1.hu, f1.hi, f1.sg, f1.gs, f1.su, f1.pu, f1.ps, f1.eu⟩
theorem sealInv (h : OInv S) (key : Int) (b p : List UInt8) : OInv (sealOf S key b p).2 := by
  obtain ⟨f1, _⟩ := Q1G h
  unfold sealOf
  split
  · split
    · exact h
    · exact ⟨f1.ok, f1.rng, f1.hu, f1.hi, f1.sg, f1.gs, f1.su, f1.pu, f1.ps, f1.eu⟩
  · exact h
theorem wrapInv (h : OInv S) (p key : Int) : OInv (wrapOf S p key).2 := by
  obtain ⟨f1, _⟩ := Q1G h
  unfold wrapOf
  split
  · split
    · exact ⟨f1.ok, f1.rng, f1.hu, f1.hi, f1.sg, f1.gs, f1.su, f1.pu, f1.ps, f1.eu⟩
    · exact h
  · exact h
theorem Q6b (h : RFine n d L) (key : Int) {b p : List UInt8} (hb : b.length < 1000000) (hp : p.length < 1000000) : RFine (n + 1) (sealR d L key b p).2.1 (sealR d L key b p).2.2 := by
  unfold sealR
  split
  · exact h.more
  · split
    · exact h.more
    · exact h.put _ ⟨hb, hp⟩
theorem Q6s (h : RFine n d L) (p key : Int) : RFine (n + 1) (wrapR d L p key).2.1 (wrapR d L p key).2.2 := by
  unfold wrapR
  split
  · exact h.more
  · split
    · exact h.more
    · exact h.put _ ⟨by show (0 : Nat) < _; decide, by show (0 : Nat) < _; decide⟩
theorem Rof.key (h : Rof w o j S n) (hn : n + 1 < 1000000) :
    Calls Try.prog 51 #[.pointer (some (blk j))] w (Gs (fun i => i = j) w o (u64V (keyOf S).1) fun w' o' => Rof w' o' j (keyOf S).2 (n + 1)) := by
  obtain ⟨d, R, h1, h2, h3⟩ := h.ex
  obtain ⟨e1, e2⟩ := key_sim h2
  refine (Q5O h1 (h3.rok h.ok (by omega))).mono fun x w' ⟨o', he, s, r⟩ => ⟨o', by rw [he, e1]; rfl, s, ⟨_, _, r, e2, h3.put _ (by decide)⟩, s.ok, keyInv h.inv⟩
theorem Rof.sealK (h : Rof w o j S n) (hn : n + 1 < 1000000) (key : Int) (hb : Row w o ba (bytesV b)) (hbc : b.length ≤ bc) (hp : Row w o pa (bytesV x)) (hpc : x.length ≤ pc) (hbl : b.length < 1000000) (hpl : x.length < 1000000) :
    Calls Try.prog 53 #[.pointer (some (blk j)), .int .u64 key, .slice ba b.length bc, .slice pa x.length pc] w (Gb (fun i => i = j) w o (sealOf S key b x).1 fun w' o' => Rof w' o' j (sealOf S key b x).2 (n + 1)) := by
  obtain ⟨d, R, h1, h2, h3⟩ := h.ex
  obtain ⟨e1, e2⟩ := Q6j h2 key b x
  refine (Q5o h1 (h3.rok h.ok (by omega)) key hb hbc hp hpc).mono fun y w' ⟨o', a', c', he, s, hr, hc, r⟩ => ⟨o', a', c', by rw [he, e1], s, by rw [← e1]; exact hr, by rw [← e1]; exact hc, ⟨_, _, r, e2, Q6b h3 key hbl hpl⟩, s.ok, sealInv h.inv key b x⟩
theorem Rof.wrap (h : Rof w o j S n) (hn : n + 1 < 1000000) (p key : Int) :
    Calls Try.prog 52 #[.pointer (some (blk j)), .int .u64 p, .int .u64 key] w (Gb (fun i => i = j) w o (wrapOf S p key).1 fun w' o' => Rof w' o' j (wrapOf S p key).2 (n + 1)) := by
  obtain ⟨d, R, h1, h2, h3⟩ := h.ex
  obtain ⟨e1, e2⟩ := Q6v h2 p key
  refine (Q5s h1 (h3.rok h.ok (by omega)) p key).mono fun y w' ⟨o', a', c', he, s, hr, hc, r⟩ => ⟨o', a', c', by rw [he, e1], s, by rw [← e1]; exact hr, by rw [← e1]; exact hc, ⟨_, _, r, e2, Q6s h3 p key⟩, s.ok, wrapInv h.inv p key⟩
theorem Rof.unwrap (h : Rof w o j S n) (hn : n < 1000000) (s : Int) (hx : RowAt w xa (bytesV x)) (hxl : x.length < 1000000) :
    Calls Try.prog 57 #[.pointer (some (blk j)), .int .u64 s, .slice xa x.length xc] w (Ret (.tuple #[.int .u64 (Q11 S s x).1, .int .i64 (Q11 S s x).2]) fun w' => Ext no w w') := by
  obtain ⟨d, R, h1, h2, h3⟩ := h.ex
  have := Q4d (xc := xc) h1 (h3.rok h.ok (by omega)) s hx hxl
  rw [Q5y h2] at this
  exact this
theorem Rof.only (h : Rof w o j S n) (s : Step K w0 o0 w o) : Rof w (only j w0 o0 o) j S n := by
  obtain ⟨d, L, ⟨R, e, hR⟩, h2, h3⟩ := h.ex
  refine ⟨⟨d, L, ⟨R, e, ⟨only_k s hR.tk, ?_, fun x hx => ?_⟩⟩, h2, h3⟩, (Q1Y s j).ok, h.inv⟩
  · obtain ⟨da, dc, la, lc, hb, hd, hda, hg, hne⟩ := hR.at_
    exact ⟨da, dc, la, lc, hb, hd, Q1w hda s j, ⟨hg.own, fun ad ha => ⟨only_k s (hg.tg ad ha).1, (hg.tg ad ha).2⟩⟩, hne⟩
  · obtain ⟨x1, x2, x3⟩ := hR.rows x hx
    exact ⟨Q1w x1 s j, Q1w x2 s j, x3⟩
theorem Q45 {h : Nat} (hh : h < 18446744073709551616) (w : World) :
    Calls Try.prog 55 #[.int .u64 h] w (fun e w' => ∃ a' c', e = .returned (.slice a' (boxL h 0).length c') ∧ OwnB w.heap.size w' a' c' (boxL h 0) ∧ Ext no w w') := by
  refine (Q0I.go _ (R := fun v w' => ∃ a' c', v = .slice a' (boxL h 0).length c' ∧ OwnB w.heap.size w' a' c' (boxL h 0) ∧ Ext no w w') ?_).mono fun e w' ⟨v, he, a', c', hv, hw⟩ => ⟨a', c', by rw [he, hv], hw⟩
  unfold Q0I.N
  refine ⟨fun q vs w1 => ∃ (t : Nat) (a : Option Addr) (c : Nat), vs = [.int .u64 ((h / 256 ^ t : Nat) : Int), .slice a (tailB h t).length c, .int .i64 t] ∧ q + t = 8 ∧ OwnB w.heap.size w1 a c (tailB h t) ∧ Ext no w w1, 8, ⟨0, none, 0, by simp [tailB], rfl, OwnB.nil _ _, Ext.refl _ _⟩, ?_⟩
  rintro q w1 n ba bn bc i ⟨t, a, c, hi, hq, hO, X1⟩
  simp only [List.cons.injEq, Value.int.injEq, Value.slice.injEq, true_and, and_true] at hi
  obtain ⟨rfl, ⟨rfl, rfl, rfl⟩, rfl⟩ := hi
  refine ⟨fun ht w9 q10 X9 hb hq10 hq10' => ?_, fun ht => ?_⟩
  · have ht : t < 8 := by omega
    have hp : 256 ^ t = 2 ^ (8 * t) := by rw [Nat.pow_mul]
    have hlt : h / 256 ^ t < 18446744073709551616 := Nat.lt_of_le_of_lt (Nat.div_le_self _ _) hh
    have hb' : Blk w9 q10 5 (bytesV [byteAt h (7 - t)]) := by
      have e : IntKind.u8.wrap (Int.tmod ((h / 256 ^ t : Nat) : Int) 256) = ((byteAt h (7 - t)).toNat : Int) := by
        rw [Q1u, show 56 - 8 * (7 - t) = 8 * t by omega, ← hp, show Int.tmod ((h / 256 ^ t : Nat) : Int) 256 = ((h / 256 ^ t % 256 : Nat) : Int) from rfl]
        exact wu8 (by omega) (by omega)
      rw [e] at hb
      exact hb
    have l1 := X1.size
    have hO9 : OwnB w.heap.size w9 (some (blk q10)) 1 [byteAt h (7 - t)] := ⟨Q1m hb' rfl (by show (1 : Nat) ≤ maxLen; unfold maxLen; decide), fun ad ha => by cases ha; exact ⟨by show _ ≤ q10; omega, hq10'⟩⟩
    obtain ⟨a', c', w12, hr, hO', hx⟩ := hO9.append (t := 29) (ty := 29) Try.underlying29 (Nat.le_trans l1 X9.size) (xc := bc) (xs := tailB h t) (hO.no X9).row (by simp [tailB]; omega)
    rw [show [byteAt h (7 - t)] ++ tailB h t = tailB h (t + 1) from (Q3D ht).symm] at hr hO'
    refine ⟨a', _, c', w12, hr, by omega, by omega, q - 1, by omega, t + 1, a', c', ?_, by omega, hO', (X1.trans X9).then hx fun b hb => .inr hb⟩
    have e : IntKind.u64.wrap (Int.tdiv ((h / 256 ^ t : Nat) : Int) 256) = ((h / 256 ^ (t + 1) : Nat) : Int) := by
      rw [show Int.tdiv ((h / 256 ^ t : Nat) : Int) 256 = ((h / 256 ^ t / 256 : Nat) : Int) from rfl, Nat.div_div_eq_div_mul, ← Nat.pow_succ]
      exact wu64 (Int.natCast_nonneg _) (by have := Nat.div_le_self h (256 ^ t.succ); omega)
    rw [e]
    rfl
  · obtain rfl : t = 8 := by omega
    have e : tailB h 8 = boxL h 0 := rfl
    rw [e] at hO ⊢
    exact ⟨ba, bc, rfl, hO, X1⟩
abbrev RWRow (N : Nat) (w : World) (o : Own) (a : Option Addr) (c : Nat) (l : List Wr) : Prop := LRow 119 2 N w o a l.length c (l.flatMap Wr.C)
theorem inf119 : (Try.prog.info? 119).map (fun i => (i.zero, i.size, i.bytes)) = some (some (.agg #[.int .i64 0, .slice none 0 0]), 2, 32) := by kernel_rfl
theorem RWRow.push {N : Nat} {l : List Wr} (h : RWRow N w o a c l) (ok : Tags w o) (hl : l.length < 1000000) (x : Wr) {q : Nat} (hb : Blk w q 119 x.C) (hq : N ≤ q) (hq' : q < w.heap.size) :
    ∃ a' n' c' w' o', (Builtin.append_ #[28, 28] 28 #[.slice a l.length c, .slice (some (blk q)) 1 1]).run Try.prog w = .ok (.slice a' n' c') w' ∧ n' = (l ++ [x]).length ∧ Step (fun j => N ≤ j) w o w' o' ∧ RWRow N w' o' a' c' (l ++ [x]) ∧ Ext (fun b => ∃ ad, a = some ad ∧ b = ad.block) w w' := by
  obtain ⟨i, hi, hz, hsz, hby⟩ := info_of inf119
  obtain ⟨a', c', w', o', hrun, s2, hrow, hX⟩ := LRow.push (ty := 28) Try.underlying28 hi hz hsz hby rfl (by decide) h ok hq hq' (xa := some (blk q)) (m := 1) (xc := 1) (news := x.C) rfl (RowAt.of_blk hb) (fun u hu => by
    simp [Wr.C] at hu
    rcases hu with rfl | rfl <;> rfl) (by omega) (by omega)
  refine ⟨a', _, c', w', o', hrun, by simp, s2, ?_, hX⟩
  unfold RWRow
  rw [List.length_append, List.flatMap_append]
  simpa using hrow
end
section
variable {w w' w1 : World} {o o' o1 : Own} {q k p N m j n : Nat} {K : Nat → Prop} {S : OS} {s : MS} {a : Option Addr} {c : Nat}
theorem Q4I (hP : Rof w o j S n) (hS : S.ok) (hlen : n + 20 < 1000000) (hr : Row w o a (s.ml.flatMap Mem.C)) (hs : s.ok) {last : Int} (hl0 : 0 ≤ last) (hl1 : last < 18446744073709551616)
    (hpub : ∀ m ∈ nowM s.ml, (alook S.publics m.pub).isSome) (hne : nowM s.ml ≠ []) :
    Calls Try.prog 24 #[.pointer (some (blk j)), .agg #[.slice a s.ml.length c, .int .i64 s.ep], .int .u64 last] w (fun x w' => ∃ o' wa wc oa oc, ∃ l : List Wr, x = .returned (.tuple #[chgV (beginK S s last).1 wa wc oa oc, .int .u64 (beginK S s last).2.1, .int .i64 0]) ∧ Step (fun i => i = j) w o w' o' ∧ Rof w' o' j (beginK S s last).2.2 (n + 10) ∧ CH w' o' (beginK S s last).1 wa wc l oa oc ∧ l.length ≤ wc ∧ (beginK S s last).1.old.length ≤ oc) := by
  refine (Q0s.go _ _ _ _ _ _ (R := fun v w' => ∃ o' wa wc oa oc, ∃ l : List Wr, v = (.tuple #[chgV (beginK S s last).1 wa wc oa oc, .int .u64 (beginK S s last).2.1, .int .i64 0]) ∧ Step (fun i => i = j) w o w' o' ∧ Rof w' o' j (beginK S s last).2.2 (n + 10) ∧ CH w' o' (beginK S s last).1 wa wc l oa oc ∧ l.length ≤ wc ∧ (beginK S s last).1.old.length ≤ oc) ?_).mono fun x w' ⟨v, he, o', wa, wc, oa, oc, l, hv, hw⟩ => ⟨o', wa, wc, oa, oc, l, by rw [he, hv], hw⟩
  unfold Q0s.N
  have ok := hP.ok
  have hkl := hP.lt
  have hul := hP.len
  have hml := hs.le
  have hnl : (nowM s.ml).length ≤ 8 := Nat.le_trans (List.length_filter_le _ _) hml
  intro w6 p1 p2 X6 P6
  obtain ⟨s6, M6⟩ := Step.priv X6 P6 ok
  have g6 : ∀ p ∈ [p1, p2], w.heap.size ≤ p ∧ p < w6.heap.size := P6
  have gp1 := g6 p1 (by simp)
  have gp2 := g6 p2 (by simp)
  have kM : ∀ p ∈ [p1, p2], ¬ p = j := fun p hp => by have := (g6 p hp).1; omega
  refine Calls.mono ((hP.step s6 id).key (by omega)) fun u w11 ⟨o11, he, s11', P11⟩ => ⟨_, he, M6.keep s11' kM, fun w18 p3 X18 P18 => ?_⟩
  have M11 := M6.step s11'
  have s11 : Step (fun i => i = j) w o w11 o11 := s6.none.trans s11'
  obtain ⟨s18', M18⟩ := Step.priv X18 P18 s11.ok
  have g3 := P18 p3 (by simp)
  have l6 := X6.size
  have l11 := s11'.size
  have l18 := X18.size
  have s18 := s11.trans s18'.none
  have M3 : Mine [p1, p2, p3] w18 (tags w11 o11 [p3]) := fun y hy => by
    rcases List.mem_cons.1 hy with rfl | hy
    · exact (M11.step s18') _ (by simp)
    · rcases List.mem_cons.1 hy with rfl | hy
      · exact (M11.step s18') _ (by simp)
      · exact M18 _ hy
  have P18' := P11.step s18' id
  have r18 := hr.step s18
  refine Calls.mono (Q4l r18 s18.ok (by omega) s.ep) fun u w22 ⟨o22, na, nc, he, s22', r22, hnc⟩ => ⟨_, _, _, he, M3.keep s22' (fun _ _ h => h), ?_⟩
  have s22 := s18.trans s22'.none
  have M22 := M3.step s22'
  have P22 := P18'.step s22' id
  have l22 := s22'.size
  obtain ⟨key, hkey⟩ : ∃ key, (keyOf S).1 = key := ⟨_, rfl⟩
  obtain ⟨S1, hS1⟩ : ∃ S1, (keyOf S).2 = S1 := ⟨_, rfl⟩
  have ok1 := Q50 hS
  have kf := Q3q S
  have kin := key_in S
  rw [hS1] at ok1 P22 kf kin
  rw [hkey] at kin
  obtain ⟨nl, hnow⟩ : ∃ nl, nowM s.ml = nl := ⟨_, rfl⟩
  have hB : beginK S s last = if 0 ≤ s.ep then (⟨3, 0, 0, 0, (wrapsL S1 key nl).2, (sealOf (wrapsL S1 key nl).1 key (boundL (s.ep + 1)) (boxL last.toNat 0)).1.1⟩, key, (sealOf (wrapsL S1 key nl).1 key (boundL (s.ep + 1)) (boxL last.toNat 0)).2)
      else (⟨3, 0, 0, 0, (wrapsL S1 key nl).2, []⟩, key, (wrapsL S1 key nl).1) := by
    unfold beginK
    rw [hS1, hkey, hnow]
  rw [hnow] at r22 hnc hnl hpub hne
  have hll0 : 0 < nl.length := by
    cases nl with
    | nil => exact absurd rfl hne
    | cons _ _ => simp
  rw [hnow, hkey]
  obtain ⟨N, hN⟩ : ∃ N, w18.heap.size = N := ⟨_, rfl⟩
  refine ⟨fun h0 => absurd h0 (by omega), fun _ => ?_⟩
  refine ⟨fun m vs w1 => ∃ (t : Nat) (o1 : Own) (a1 : Option Addr) (c1 : Nat) (l : List Wr), vs = [.int .i64 t, .int .i64 0, .int .i64 0, .int .u64 0, .int .i64 0, .slice none 0 0, .slice none 0 0, .int .i64 3, .int .i64 0, .int .u64 0, .int .i64 0, .slice a1 l.length c1, .slice none 0 0] ∧ m + t = nl.length ∧ Step (fun i => i = j) w o w1 o1 ∧ Rof w1 o1 j (wrapsL S1 key (nl.take t)).1 (n + 1 + t) ∧ Mine [p1, p2, p3] w1 o1 ∧ Row w1 o1 na (nl.flatMap Mem.C) ∧ RWRow N w1 o1 a1 c1 l ∧ l.map Wr.p = (wrapsL S1 key (nl.take t)).2 ∧ (∀ x ∈ l, Row w1 o1 x.a (bytesV x.b) ∧ x.b.length ≤ x.c ∧ x.b.length < 1000000) ∧ N ≤ w1.heap.size,
    nl.length, ⟨0, o22, none, 0, [], rfl, rfl, s22, P22, M22, r22, LRow.nil _ _ _ _ _, rfl, fun x hx => (by cases hx), by omega⟩, ?_⟩
  intro m w35 i0 i1 i2 i3 i4 i5a i5n i5c i6a i6n i6c i7 i8 i9 i10 i11a i11n i11c i12a i12n i12c hI
  obtain ⟨t, o35, a1, c1, l, hi, hm, s35, P35, M35, r35, L35, hlm, hlb, hNs⟩ := hI
  simp only [List.cons.injEq, Value.slice.injEq, Value.int.injEq, true_and, and_true] at hi
  obtain ⟨rfl, rfl, rfl, rfl, rfl, ⟨rfl, rfl, rfl⟩, ⟨rfl, rfl, rfl⟩, rfl, rfl, rfl, rfl, ⟨rfl, rfl, rfl⟩, ⟨rfl, rfl, rfl⟩⟩ := hi
  have fr := Q1Z key (nl.take t) S1 ok1.1
  have htl0 : (nl.take t).length ≤ 8 := by rw [List.length_take]; omega
  have hll : l.length = (nl.take t).length := by have := congrArg List.length hlm; rw [List.length_map] at this; rw [this]; exact fr.2.2.2.2.2.2
  refine ⟨fun ht => ?_, fun ht => ?_⟩
  · have htl : t < nl.length := by omega
    have hg : nl[t]? = some nl[t] := List.getElem?_eq_getElem htl
    have hmem := List.getElem_mem htl
    have htk : nl.take (t + 1) = nl.take t ++ [nl[t]] := by rw [List.take_add_one, hg]; rfl
    generalize nl[t] = x at *
    have hr1 := r35.1
    obtain ⟨ad, rfl⟩ := hr1.faddr Mem.len (by decide) htl
    have hxp : (alook (wrapsL S1 key (nl.take t)).1.publics x.pub).isSome := by rw [fr.1, kf.1]; exact hpub x hmem
    have hxk : key ∈ (wrapsL S1 key (nl.take t)).1.keys := by rw [fr.2.1]; exact kin
    have hwk := Q3m hxp hxk
    refine ⟨ad, rfl, by omega, by omega, x.pub, by rw [Int.toNat_natCast]; exact hr1.fcell Mem.len hg 1 rfl, ?_⟩
    have hM : ∀ y ∈ [p1, p2, p3], ¬ y = j := fun y hy => by
      rcases List.mem_cons.1 hy with rfl | hy
      · omega
      · rcases List.mem_cons.1 hy with rfl | hy
        · omega
        · rw [List.mem_singleton.1 hy]; omega
    refine Calls.mono (P35.wrap (by omega) x.pub key) fun u w54 ⟨o54, xa, xc, he, s54, xr, hxc, P54⟩ => ⟨_, _, _, _, he, M35.keep s54 hM, fun hne' => absurd (by rw [hwk]) hne', fun _ => ⟨by omega, by omega, x.who, ?_, fun w62 q63 X62 b62 hq62 hq62' => ?_⟩⟩
    · rw [Int.toNat_natCast]; exact (r35.step s54).1.fcell Mem.len hg 0 rfl
    have t62 := Step.of_no X62 s54.ok
    have s62 := s54.trans t62.none
    have L62 : RWRow N w62 _ i11a i11c l := LRow.step L35 s62 fun j' hj => .inl (by rw [hj]; omega)
    have l54 := s54.size
    obtain ⟨a2, n2, c2, w65, o65, hrun, hn2, s65, L65, X65⟩ := L62.push s62.ok (by omega) ⟨x.who, xa, xc, (wrapOf (wrapsL S1 key (nl.take t)).1 x.pub key).1.1⟩ b62 (by omega) hq62'
    subst hn2
    have M62 := (M35.step s54).step t62
    have hMN : ∀ y ∈ [p1, p2, p3], ¬ N ≤ y := fun y hy => by
      rcases List.mem_cons.1 hy with rfl | hy
      · omega
      · rcases List.mem_cons.1 hy with rfl | hy
        · omega
        · rw [List.mem_singleton.1 hy]; omega
    refine ⟨a2, _, c2, w65, hrun, M62.keep s65 hMN, by omega, by omega, fun w66 X66 => ?_⟩
    have M65 := M62.step s65
    obtain ⟨o66, s66⟩ := Step.store1 X66 s65.ok (M65 p3 (by simp)).2
    have hall : Step (fun i => i = j) w o w66 o66 := ((s35.trans s62).trans' s65 fun i hi => .inr (by omega)).trans' s66 fun i hi => .inr (by rw [hi]; omega)
    have L66 : RWRow N w66 o66 a2 c2 (l ++ [⟨x.who, xa, xc, (wrapOf (wrapsL S1 key (nl.take t)).1 x.pub key).1.1⟩]) := LRow.step L65 s66 fun j' hj => .inl (by rw [hj]; omega)
    have hsn := Q2i key x (nl.take t) S1
    refine ⟨m - 1, by omega, t + 1, o66, a2, c2, _, rfl, by omega, hall, ?_, M65.step s66, ((r35.step s62).step s65).step s66, L66, ?_, fun y hy => ?_, by have := X62.size; have := X65.size; have := X66.size; omega⟩
    · rw [htk, hsn]
      exact ((P54.step t62 id).step s65 (show ¬ N ≤ j by omega)).step s66 (show ¬ j = p3 by omega)
    · rw [htk, hsn, List.map_append, hlm]; rfl
    · rcases List.mem_append.1 hy with hy | hy
      · obtain ⟨y1, y2⟩ := hlb y hy
        exact ⟨((y1.step s62).step s65).step s66, y2⟩
      · rw [List.mem_singleton.1 hy]
        exact ⟨((xr.step t62).step s65).step s66, hxc, by rw [hwk, Q16]; decide⟩
  · have htt : t = nl.length := by omega
    subst htt
    rw [List.take_of_length_le (Nat.le_refl _)] at hlm P35 fr hll
    have hlw : l.length = (wrapsL S1 key nl).2.length := by rw [← hlm, List.length_map]
    refine ⟨fun hep => ?_, fun hep w98 X98 => ?_⟩
    · have hep0 : 0 ≤ s.ep := by have := hs.ep0; omega
      have he1 := hs.ep1
      refine ⟨by omega, by omega, ?_⟩
      have hwe : IntKind.u64.wrap (s.ep + 1) = (((s.ep + 1).toNat : Nat) : Int) := by rw [wu64 (by omega) (by omega)]; omega
      rw [hwe]
      refine (W.rNum_spec (s.ep + 1).toNat w35 (by omega)).mono fun u w78 ⟨ba, bc, he, hO, X78⟩ => ⟨_, _, _, he, ?_⟩
      have hO : OwnB w35.heap.size w78 ba bc (boundL (s.ep + 1)) := hO
      have t78 := Step.of_no X78 s35.ok
      have Mp2 : Mine [p2, p3] w35 o35 := M35.sub fun p hp => by
        rcases List.mem_cons.1 hp with rfl | hp
        · simp
        · rw [List.mem_singleton.1 hp]; simp
      refine ⟨Mp2.keep t78 (fun _ _ h => h), ?_⟩
      obtain ⟨ln, rfl⟩ := Int.eq_ofNat_of_zero_le hl0
      refine (Q45 (h := ln) (by omega) w78).mono fun u w81 ⟨ea, ec, he, hE, X81⟩ => ⟨_, _, _, he, ?_⟩
      have t81 := Step.of_no X81 t78.ok
      refine ⟨(Mp2.step t78).keep t81 (fun _ _ h => h), ?_⟩
      have t7881 := t78.trans t81
      have rb : Row w81 _ ba (bytesV (boundL (s.ep + 1))) := (Q2a hO X78 : Row w78 (grow w35 o35) ba _).step t81
      have re : Row w81 _ ea (bytesV (boxL ln 0)) := (Q2a hE X81 : Row w81 (grow w78 (grow w35 o35)) ea _)
      have hbl := Q4e (s.ep + 1)
      have hse := (P35.step t7881 id).sealK (by omega) key (bc := bc) (pc := ec) rb (hO.le) re (hE.le) (by omega) (by rw [Q16]; decide)
      have hm85 : ∀ y ∈ [p2, p3], ¬ y = j := fun y hy => by
        rcases List.mem_cons.1 hy with rfl | hy
        · omega
        · rw [List.mem_singleton.1 hy]; omega
      refine Calls.mono hse fun u w85 ⟨o85, za, zc, he, s85, zr, hzc, P85⟩ => ⟨_, _, _, _, he, ((Mp2.step t78).step t81).keep s85 hm85, fun w92 X92 => ?_⟩
      have M85 := ((Mp2.step t78).step t81).step s85
      obtain ⟨o92, s92⟩ := Step.store2 X92 s85.ok (M85 p2 (by simp)).2 (M85 p3 (by simp)).2
      have sA := t7881.none.trans s85
      have sB : Step (fun i => i = j ∨ i = p2 ∨ i = p3) w35 o35 w92 o92 := (sA.mono fun _ h _ => .inl h).trans (s92.mono fun _ h _ => .inr h)
      have sW : Step (fun i => i = j) w o w92 o92 := (s35.trans sA).trans' s92 fun i hi => .inr (by rcases hi with h | h <;> omega)
      have L92 : RWRow N w92 o92 i11a i11c l := LRow.step L35 sB fun j' hj => .inl (by rcases hj with h | h | h <;> omega)
      have hB2 : beginK S s ((ln : Nat) : Int) = (⟨3, 0, 0, 0, (wrapsL S1 key nl).2, (sealOf (wrapsL S1 key nl).1 key (boundL (s.ep + 1)) (boxL ln 0)).1.1⟩, key, (sealOf (wrapsL S1 key nl).1 key (boundL (s.ep + 1)) (boxL ln 0)).2) := by rw [hB, if_pos hep0]; rfl
      rw [hB2]
      refine ⟨only j w o o92, i11a, i11c, za, zc, l, by rw [hlw]; rfl, Q1Y sW j, ((P85.mono (by omega)).step s92 (show ¬ (j = p2 ∨ j = p3) by omega)).only sW, ⟨Q2m L92 sW (by omega) (by omega), hlm, fun x hx => ?_, Q1w (zr.step s92) sW j, ?_, by omega⟩, L92.le, hzc⟩
      · obtain ⟨y1, y2⟩ := hlb x hx
        exact ⟨Q1w (y1.step sB) sW j, y2⟩
      · show (sealOf (wrapsL S1 key nl).1 key (boundL (s.ep + 1)) (boxL ln 0)).1.1.length < 1000000
        unfold sealOf
        split
        · split
          · show (0 : Nat) < _; decide
          · show (boxL _ _).length < _
            rw [Q16]
            have := Q1L (classOf (boxL ln 0).length)
            omega
        · show (0 : Nat) < _; decide
    · have hep0 : ¬ 0 ≤ s.ep := by omega
      obtain ⟨o98, s98⟩ := Step.store1 X98 s35.ok (M35 p2 (by simp)).2
      have sW : Step (fun i => i = j) w o w98 o98 := s35.trans' s98 fun i hi => .inr (by rw [hi]; exact gp2.1)
      have L98 : RWRow N w98 o98 i11a i11c l := LRow.step L35 s98 fun j' hj => .inl (by rw [hj]; omega)
      have hB2 : beginK S s last = (⟨3, 0, 0, 0, (wrapsL S1 key nl).2, []⟩, key, (wrapsL S1 key nl).1) := by rw [hB, if_neg hep0]
      rw [hB2]
      refine ⟨only j w o o98, i11a, i11c, none, 0, l, by rw [hlw]; rfl, Q1Y sW j, ((P35.mono (by omega)).step s98 (show ¬ j = p2 by omega)).only sW, ⟨Q2m L98 sW (by omega) (by omega), hlm, fun x hx => ?_, Row.nil _ _ _, by show (0 : Nat) < _; decide, by omega⟩, L98.le, Nat.le_refl _⟩
      obtain ⟨y1, y2⟩ := hlb x hx
      exact ⟨Q1w (y1.step s98) sW j, y2⟩
end
open W (OwnB GivesW)
def RS.W (R : RS) (ka : Option Addr) (kc : Nat) (oa : Option Addr) (oc : Nat) : List Value := [.int .i64 R.who, .int .u64 R.secret, .slice ka R.keys.length kc, .slice oa R.olds.length oc]
structure MG (w : World) (o : Own) (q : Nat) (R : RS) : Prop where
  mem : ∃ ka kc oa oc, ∃ ol : List BS, Blk w q 85 (R.W ka kc oa oc) ∧ KRw w o q ka kc R.keys ∧ ORw w o q oa oc ol ∧ ol.map BS.bs = R.olds ∧ ∀ x ∈ ol, BSk w o x
  tg : o q = some q
section
variable {w w' w1 : World} {o o' o1 : Own} {q k p N m : Nat} {K : Nat → Prop} {R : RS} {b : List UInt8} {a : Option Addr} {c : Nat}
theorem MG.lt (h : MG w o q R) : q < w.heap.size := by
  obtain ⟨ka, kc, oa, oc, ol, hb, _⟩ := h.mem
  exact hb.lt
theorem MG.step (h : MG w o q R) (s : Step K w o w' o') (hk : ¬ K q) : MG w' o' q R := by
  obtain ⟨⟨ka, kc, oa, oc, ol, hb, hk1, ho, hm, hx⟩, tg⟩ := h
  exact ⟨⟨ka, kc, oa, oc, ol, s.blk hb tg hk, hk1.step s hk, ho.step s hk, hm, fun x h => (hx x h).step s⟩, by rw [s.own hb.lt]; exact tg⟩
theorem MG.pushKey (h : MG w o q R) (ok : Tags w o) (hl : R.keys.length < 1000000) (x : Int) {qb : Nat} (hb : Blk w qb 27 [.int .u64 x]) {ka : Option Addr} {n kc : Nat} (hc : w.cell? ((blk q).add 2) = some (.slice ka n kc)) :
    ∃ a' n' c' w' o', (Builtin.append_ #[22, 22] 22 #[.slice ka n kc, .slice (some (blk qb)) 1 1]).run Try.prog w = .ok (.slice a' n' c') w' ∧ Step (fun j => j = q) w o w' o' ∧
      Q07 w' ((blk q).add 2) ∧ ∀ w2, w2 = w'.setCell ((blk q).add 2) (.slice a' n' c') → Step (fun j => j = q) w o w2 (grow w' o') ∧ MG w2 (grow w' o') q { R with keys := R.keys ++ [x] } := by
  obtain ⟨⟨ka', kc', oa, oc, ol, hbk, hk1, ho, hm, hx⟩, tg⟩ := h
  have hc2 := hbk.cella (i := 2) (v := .slice ka' R.keys.length kc') rfl
  rw [hc] at hc2
  cases hc2
  obtain ⟨i, hi, hz, hsz, hby⟩ := info_of inf27
  obtain ⟨a', c', w', o', hrun, s2, hk2, hk, _⟩ := Grows.push (ty := 22) Try.underlying22 hi hz hsz hby rfl (by decide) hk1 ok hbk.lt (xa := some (blk qb)) (m := 1) (xc := 1) (news := [x].map u64V) rfl (RowAt.of_blk hb) Q4S (by omega) (by omega)
  have X2 : Ext (fun b => ∃ ad, ka = some ad ∧ b = ad.block) w w' := ⟨s2.ext.os, s2.ext.tape, s2.ext.output, s2.ext.size, fun b hb hn => hk b hb fun ad ha hb' => hn ⟨ad, ha, hb'⟩⟩
  have hb2 : Blk w' q 85 _ := hbk.ext X2 fun ⟨ad, h1, h2⟩ => hk1.ne hbk (by decide) ad h1 h2.symm
  have ho2 : ORw w' o' q oa oc ol := ho.keep X2 (fun ad ha ⟨ad', h1, h2⟩ => ho.apart hk1 (by decide) ad ad' ha h1 h2) fun b hb => s2.own hb
  have tg2 : o' q = some q := by rw [s2.own hbk.lt]; exact tg
  refine ⟨a', _, c', w', o', hrun, s2, hb2.cana (i := 2) rfl, fun w3 e3 => ?_⟩
  have X3 : Ext (fun b => b = q) w' w3 := (Ext.refl (fun b => b = q) w').x_set (q := q) (i := 2) rfl (.inl rfl) e3
  have b3 := hb2.seti 2 rfl e3
  have hk2' : KRw w' o' q a' c' (R.keys ++ [x]) := by
    unfold KRw
    rw [List.length_append, List.map_append]; exact hk2
  have s3 : Step (fun j => j = q) w' o' w3 (grow w' o') := Step.of_ext X3 s2.ok fun b hb _ => by subst hb; exact tg2
  refine ⟨s2.trans s3, ⟨⟨a', c', oa, oc, ol, ?_, ?_, ?_, hm, fun y hy => ((hx y hy).step s2).step s3⟩, by rw [s3.own hb2.lt]; exact tg2⟩⟩
  · have e : RS.W { R with keys := R.keys ++ [x] } a' c' oa oc = [.int .i64 R.who, .int .u64 R.secret, .slice a' (R.keys.length + 1) c', .slice oa R.olds.length oc] := by unfold RS.W; rw [List.length_append]; rfl
    rw [e]; exact b3
  · exact hk2'.keep X3 (hk2'.ne hb2 (by decide)) fun b hb => s3.own hb
  · exact ho2.keep X3 (ho2.ne hb2 (by decide)) fun b hb => s3.own hb
theorem MG.pushOld (h : MG w o q R) (ok : Tags w o) (hl : R.olds.length < 1000000) {x : BS} (hxk : BSk w o x) {qb : Nat} (hb : Blk w qb 29 [x.v]) {ka : Option Addr} {n kc : Nat} (hc : w.cell? ((blk q).add 3) = some (.slice ka n kc)) :
    ∃ a' n' c' w' o', (Builtin.append_ #[83, 83] 83 #[.slice ka n kc, .slice (some (blk qb)) 1 1]).run Try.prog w = .ok (.slice a' n' c') w' ∧ Step (fun j => j = q) w o w' o' ∧
      Q07 w' ((blk q).add 3) ∧ ∀ w2, w2 = w'.setCell ((blk q).add 3) (.slice a' n' c') → Step (fun j => j = q) w o w2 (grow w' o') ∧ MG w2 (grow w' o') q { R with olds := R.olds ++ [x.bs] } := by
  obtain ⟨⟨ka', kc', oa, oc, ol, hbk, hk1, ho, hm, hx⟩, tg⟩ := h
  have hol : ol.length = R.olds.length := by rw [← hm, List.length_map]
  have hc2 := hbk.cella (i := 3) (v := .slice oa R.olds.length oc) rfl
  rw [hc] at hc2
  cases hc2
  obtain ⟨i, hi, hz, hsz, hby⟩ := info_of inf29
  obtain ⟨a', c', w', o', hrun, s2, hk2, hk, _⟩ := Grows.push (ty := 83) Try.underlying83 hi hz hsz hby rfl (by decide) ho ok hbk.lt (xa := some (blk qb)) (m := 1) (xc := 1) (news := [x].map BS.v) rfl (RowAt.of_blk hb) Q4Z (by omega) (by omega)
  rw [hol] at hrun
  have X2 : Ext (fun b => ∃ ad, ka = some ad ∧ b = ad.block) w w' := ⟨s2.ext.os, s2.ext.tape, s2.ext.output, s2.ext.size, fun b hb hn => hk b hb fun ad ha hb' => hn ⟨ad, ha, hb'⟩⟩
  have hb2 : Blk w' q 85 _ := hbk.ext X2 fun ⟨ad, h1, h2⟩ => ho.ne hbk (by decide) ad h1 h2.symm
  have hk1' : KRw w' o' q ka' kc' R.keys := hk1.keep X2 (fun ad ha ⟨ad', h1, h2⟩ => hk1.apart ho (by decide) ad ad' ha h1 h2) fun b hb => s2.own hb
  have tg2 : o' q = some q := by rw [s2.own hbk.lt]; exact tg
  refine ⟨a', _, c', w', o', hrun, s2, hb2.cana (i := 3) rfl, fun w3 e3 => ?_⟩
  have X3 : Ext (fun b => b = q) w' w3 := (Ext.refl (fun b => b = q) w').x_set (q := q) (i := 3) rfl (.inl rfl) e3
  have b3 := hb2.seti 3 rfl e3
  have hk2' : ORw w' o' q a' c' (ol ++ [x]) := by
    unfold ORw
    rw [List.length_append, List.map_append]; exact hk2
  have s3 : Step (fun j => j = q) w' o' w3 (grow w' o') := Step.of_ext X3 s2.ok fun b hb _ => by subst hb; exact tg2
  refine ⟨s2.trans s3, ⟨⟨ka', kc', a', c', ol ++ [x], ?_, ?_, ?_, by rw [List.map_append, hm]; rfl, fun y hy => ?_⟩, by rw [s3.own hb2.lt]; exact tg2⟩⟩
  · have e : RS.W { R with olds := R.olds ++ [x.bs] } ka' kc' a' c' = [.int .i64 R.who, .int .u64 R.secret, .slice ka' R.keys.length kc', .slice a' (R.olds.length + 1) c'] := by unfold RS.W; rw [List.length_append]; rfl
    rw [e]; exact b3
  · exact hk1'.keep X3 (hk1'.ne hb2 (by decide)) fun b hb => s3.own hb
  · exact hk2'.keep X3 (hk2'.ne hb2 (by decide)) fun b hb => s3.own hb
  · rcases List.mem_append.1 hy with hy | hy
    · exact ((hx y hy).step s2).step s3
    · rw [List.mem_singleton.1 hy]; exact (hxk.step s2).step s3
theorem MG.key (h : MG w o q R) {i : Nat} (hi : i < R.keys.length) : ∃ ka kc ad, w.cell? ((blk q).add 2) = some (.slice ka R.keys.length kc) ∧ ka = some ad ∧ w.cell? (ad.add (i * 1)) = some (.int .u64 (R.keys[i]?.getD 0)) := by
  obtain ⟨⟨ka, kc, oa, oc, ol, hbk, hk1, ho, hm, hx⟩, tg⟩ := h
  have hr := hk1.row
  have hg : (R.keys.map u64V)[i]? = some (u64V (R.keys[i]?.getD 0)) := by rw [List.getElem?_map, List.getElem?_eq_getElem hi]; rfl
  obtain ⟨ad, ha, hc⟩ := hr i _ hg
  exact ⟨ka, kc, ad, hbk.cella (i := 2) rfl, ha, by rw [Nat.mul_one]; exact hc⟩
theorem MG.who (h : MG w o q R) : w.cell? ((blk q).add 0) = some (.int .i64 R.who) := by
  obtain ⟨⟨ka, kc, oa, oc, ol, hbk, _⟩, tg⟩ := h
  exact hbk.cella (i := 0) rfl
theorem MG.secret (h : MG w o q R) : w.cell? ((blk q).add 1) = some (.int .u64 R.secret) := by
  obtain ⟨⟨ka, kc, oa, oc, ol, hbk, _⟩, tg⟩ := h
  exact hbk.cella (i := 1) rfl
theorem MG.keysC (h : MG w o q R) : ∃ ka kc, w.cell? ((blk q).add 2) = some (.slice ka R.keys.length kc) := by
  obtain ⟨⟨ka, kc, oa, oc, ol, hbk, _⟩, tg⟩ := h
  exact ⟨ka, kc, hbk.cella (i := 2) rfl⟩
theorem MG.oldsC (h : MG w o q R) : ∃ ka kc, w.cell? ((blk q).add 3) = some (.slice ka R.olds.length kc) := by
  obtain ⟨⟨ka, kc, oa, oc, ol, hbk, _⟩, tg⟩ := h
  exact ⟨oa, oc, hbk.cella (i := 3) rfl⟩
theorem MG.init {b : Nat} {who secret : Int} (ok : Tags w o) (X : Ext no w w') (hb : Blk w' b 85 [.int .i64 who, .int .u64 secret, .slice none 0 0, .slice none 0 0]) (hq : w.heap.size ≤ b) (hq' : b < w'.heap.size) :
    Step no w o w' (tag (grow w o) b b) ∧ MG w' (tag (grow w o) b b) b ⟨who, secret, [], []⟩ :=
  ⟨(Step.of_no X ok).tag hq hq', ⟨none, 0, none, 0, [], hb, Grows.nil _ _ _ _ _, Grows.nil _ _ _ _ _, rfl, fun x h => (by cases h)⟩, Q1n⟩
end
theorem Q2U : ∀ {l : List (Int × List UInt8)} {last : Int}, boxesGo last l = true → l.Pairwise (fun a b => a.1 < b.1) ∧ (∀ x ∈ l, last < x.1) ∧ ∀ x ∈ l, x.2.length = 16
  | [], last, _ => ⟨List.Pairwise.nil, fun x h => (by cases h), fun x h => (by cases h)⟩
  | x :: r, last, h => by
    simp only [boxesGo, Bool.and_eq_true, decide_eq_true_eq] at h
    obtain ⟨⟨⟨h1, h2⟩, h3⟩, h4⟩ := h
    obtain ⟨g1, g2, g3⟩ := Q2U h4
    refine ⟨List.Pairwise.cons g2 g1, fun y hy => ?_, fun y hy => ?_⟩
    · rcases List.mem_cons.1 hy with rfl | hy
      · exact h2
      · have := g2 y hy; omega
    · rcases List.mem_cons.1 hy with rfl | hy
      · exact h3
      · exact g3 y hy
theorem Q4w {c : Chg} (h : rightM c = true) (hk : c.kd = 3) : boxesGo (-1) c.ws = true := by
  rw [Q2R hk] at h
  simp only [Bool.and_eq_true] at h
  have h1 := h.1
  unfold boxesP at h1
  simp only [Bool.and_eq_true] at h1
  exact h1.1
theorem Q5t (S : OS) (olds : List (List UInt8)) {ks : List Int} (h : ∀ x ∈ ks, x ≠ 0) (x : Int) : backK S olds ks.length (ks ++ [x]) = ks ++ [x] := by
  cases hl : ks.length with
  | zero => rfl
  | succ e =>
    unfold backK
    rw [if_neg]
    intro ht
    have h2 := ht.1.2
    rw [List.getElem?_append_left (by omega), List.getElem?_eq_getElem (by omega)] at h2
    exact h _ (List.getElem_mem _) h2
theorem Q3t {l : List (Int × List UInt8)} (hp : l.Pairwise fun a b => a.1 < b.1) {t : Nat} {x : Int × List UInt8} (hx : l[t]? = some x) : (l.take t).find? (fun p => p.1 == x.1) = none := by
  rw [List.find?_eq_none]
  intro y hy hc
  obtain ⟨i, hi⟩ := List.mem_iff_getElem?.1 hy
  have hit : i < t := by
    have := (List.getElem?_eq_some_iff.1 hi).1
    rw [List.length_take] at this; omega
  rw [List.getElem?_take_of_lt hit] at hi
  obtain ⟨h1, e1⟩ := List.getElem?_eq_some_iff.1 hi
  obtain ⟨h2, e2⟩ := List.getElem?_eq_some_iff.1 hx
  have := List.pairwise_iff_getElem.1 hp i t h1 h2 hit
  rw [e1, e2] at this
  simp only [beq_iff_eq] at hc
  omega
def toldTo (S : OS) (R : RS) (l : List (Int × List UInt8)) : Int × Int := match l.find? (fun p => p.1 == R.who) with | some p => Q11 S R.secret p.2 | none => (0, 11)
section
variable {w w' w1 : World} {o o' o1 : Own} {q k p N m j n : Nat} {K : Nat → Prop} {R : RS} {S : OS} {b : List UInt8} {a : Option Addr} {c : Nat} {l : List Wr} {cg : Chg} {wa oa : Option Addr} {wc oc : Nat}
theorem Q4K (h : MG w o q R) (hP : Rof w o j S n) (hn : n < 1000000) (hqj : q ≠ j) (hl : R.keys.length = R.olds.length) (h1 : R.keys.length < 1000) (hnz : ∀ x ∈ R.keys, x ≠ 0) (hC : CH w o cg wa wc l oa oc) (hoc : cg.old.length ≤ oc) :
    Calls Try.prog 27 #[.pointer (some (blk q)), .pointer (some (blk j)), chgV cg wa wc oa oc] w (Ret (.int .i64 (learnK S R cg).2) fun w' => ∃ o', Step (fun i => i = q) w o w' o' ∧ MG w' o' q (learnK S R cg).1) := by
  refine Q0c.run _ _ _ _ _ _ _ _ _ _ _ _ ?_
  unfold Q0c.N
  have ok := hP.ok
  intro w9 pp X9 P9
  obtain ⟨s9, M9⟩ := Step.priv X9 P9 ok
  have hpp := P9 pp (by simp)
  have hql := h.lt
  have hpq : pp ≠ q := by omega
  have hlen : cg.ws.length = l.length := by rw [← hC.m]; simp
  have hln := hC.n
  have bad : ∀ (k2 : Int) (w9 : World) (o9 : Own), learnK S R cg = (R, k2) → Step no w o w9 o9 → Value.int .i64 k2 = .int .i64 (learnK S R cg).2 ∧ ∃ o', Step (fun i => i = q) w o w9 o' ∧ MG w9 o' q (learnK S R cg).1 := fun k2 w9 o9 hK s9 => by
    rw [hK]; exact ⟨rfl, o9, s9.none, h.step s9 id⟩
  have R9 := Q2T (w := w9) (cg := cg) (wa := wa) (oa := oa) (wc := wc) (oc := oc) (hC.step s9).ws.1 hC.m hC.n hC.ol
  refine Calls.mono R9 fun u w13 ⟨he, X13⟩ => ⟨_, he, (M9.keep (Step.of_no X13 s9.ok) fun _ _ h => h), fun hr => ?_, fun hr => ⟨fun hk => ?_, fun hk => ?_⟩⟩
  · exact bad 1 w13 _ (by unfold learnK; rw [if_pos (.inr hr)]) (s9.trans (Step.of_no X13 s9.ok))
  · exact bad 1 w13 _ (by unfold learnK; rw [if_pos (.inl hk)]) (s9.trans (Step.of_no X13 s9.ok))
  have t13 := Step.of_no X13 s9.ok
  have s13 := s9.trans t13
  have M13 := M9.step t13
  have E13 := h.step s13 id
  obtain ⟨ka, kc, hc3⟩ := E13.keysC
  refine ⟨_, rfl, _, _, _, hc3, fun h20 => ?_, fun h20 => ?_⟩
  · exact bad 3 w13 _ (by unfold learnK; rw [if_neg (by rw [hr]; simp [hk]), if_pos (by omega)]) s13
  have hK : learnK S R cg = ({ R with keys := R.keys ++ [(toldBy S R cg).1], olds := R.olds ++ [cg.old] }, (toldBy S R cg).2) := by
    unfold learnK; rw [if_neg (by rw [hr]; simp [hk]), if_neg (by omega), Q5t _ _ hnz]
  obtain ⟨hpw, _, hb16⟩ := Q2U (Q4w hr hk)
  rw [← hC.m] at hpw
  have htb : toldBy S R cg = toldTo S R (l.map Wr.p) := by unfold toldBy toldTo; rw [hC.m]; try rfl
  rw [hlen]
  refine ⟨fun m vs w1 => ∃ (t : Nat), vs = [.int .u64 (toldTo S R ((l.map Wr.p).take t)).1, .int .i64 (toldTo S R ((l.map Wr.p).take t)).2, .int .i64 t] ∧ m + t = l.length ∧ Ext no w13 w1, l.length, ⟨0, rfl, rfl, Ext.refl _ _⟩, ?_⟩
  intro m w25 key kk i hI
  obtain ⟨t, hi, hm, X25⟩ := hI
  simp only [List.cons.injEq, Value.int.injEq, true_and, and_true] at hi
  obtain ⟨rfl, rfl, rfl⟩ := hi
  have t25 := Step.of_no X25 s13.ok
  have s25 := s13.trans t25
  have E25 := h.step s25 id
  have C25 := hC.step s25
  refine ⟨fun ht => ?_, fun ht => ?_⟩
  · have htl : t < l.length := by omega
    have hg : l[t]? = some l[t] := List.getElem?_eq_getElem htl
    have hmem := List.getElem_mem htl
    have hgm : (l.map Wr.p)[t]? = some (l[t]).p := by rw [List.getElem?_map, hg]; rfl
    have htk : (l.map Wr.p).take (t + 1) = (l.map Wr.p).take t ++ [(l[t]).p] := by rw [List.take_add_one, hgm]; rfl
    generalize l[t] = x at *
    have hw25 := C25.ws.1
    obtain ⟨ad, rfl⟩ := hw25.faddr Wr.len (by decide) htl
    refine ⟨ad, rfl, by omega, by omega, x.who, by rw [Int.toNat_natCast]; exact hw25.fcell Wr.len hg 0 rfl, _, E25.who, fun hwho => ?_, fun hwho => ⟨by omega, by omega, fun w27 X27 => ⟨m - 1, by omega, t + 1, ?_, by omega, X25.trans X27⟩⟩⟩
    · have hno : ((l.map Wr.p).take t).find? (fun p => p.1 == R.who) = none := by
        have := Q3t hpw hgm
        rwa [show x.p.1 = R.who from hwho] at this
      have ht2 : toldTo S R ((l.map Wr.p).take (t + 1)) = Q11 S R.secret x.b := by
        unfold toldTo
        rw [htk, List.find?_append, hno]
        have : (x.p.1 == R.who) = true := by rw [show x.p.1 = R.who from hwho]; simp
        rw [List.find?_cons, this]; rfl
      refine ⟨_, E25.secret, by omega, by omega, _, _, _, by rw [Int.toNat_natCast]; exact hw25.fcell Wr.len hg 1 rfl, fun w34 X34 => ?_⟩
      have t34 := Step.of_no X34 s25.ok
      have s34 := s25.trans t34
      obtain ⟨x1, x2, x3⟩ := (hC.step s34).bs x hmem
      refine Calls.mono ((hP.step s34 id).unwrap hn R.secret x1.1 x3) fun u w42 ⟨he, X42⟩ => ⟨_, _, he, ((M13.step t25).step t34).keep (Step.of_no X42 s34.ok) (fun _ _ h => h), by omega, by omega, m - 1, by omega, t + 1, ?_, by omega, (X25.trans X34).trans X42⟩
      rw [ht2]; rfl
    · have ht2 : toldTo S R ((l.map Wr.p).take (t + 1)) = toldTo S R ((l.map Wr.p).take t) := by
        unfold toldTo
        rw [htk, List.find?_append]
        have hf : (x.p.1 == R.who) = false := by
          show (x.who == R.who) = false; simpa using hwho
        have : [x.p].find? (fun p => p.1 == R.who) = none := by rw [List.find?_cons, hf]; rfl
        rw [this, Option.or_none]
      rw [ht2]; rfl
  · have htt : t = l.length := by omega
    subst htt
    rw [List.take_of_length_le (by rw [List.length_map]; exact Nat.le_refl _), ← htb]
    obtain ⟨x, hx⟩ : ∃ x, (toldBy S R cg).1 = x := ⟨_, rfl⟩
    rw [hx] at hK ⊢
    obtain ⟨ka2, kc2, hc25⟩ := E25.keysC
    refine ⟨_, _, _, hc25, fun w47 q48 X47 b47 hq47 hq47' => ?_⟩
    have t47 := Step.of_no X47 s25.ok
    have s47 := s25.trans t47
    have E47 := h.step s47 id
    obtain ⟨a6, n6, c6, w50, o50, hrun, s50, hcan, hst⟩ := E47.pushKey s47.ok (by omega) x b47 (X47.cell hc25 id)
    have M47 := (M13.step t25).step t47
    have a20 : ((blk q).add 2).add 0 = (blk q).add 2 := by rw [add_add]
    refine ⟨a6, n6, c6, w50, hrun, M47.keep s50 (fun y hy => by rw [List.mem_singleton.1 hy]; exact hpq), ?_⟩
    rw [a20]
    refine ⟨hcan, fun y hy => by rw [List.mem_singleton.1 hy, Q0a]; exact hpq, Q01 fun w51 e51 => ?_⟩
    obtain ⟨s51, E51⟩ := hst w51 e51
    have s51' : Step (fun i => i = q) w o w51 _ := s47.none.trans s51
    obtain ⟨oa1, oc1, hc4⟩ := E51.oldsC
    refine ⟨_, _, _, hc4, fun w55 q56 X55 b55 hq55 hq55' => ?_⟩
    have t55 := Step.of_no X55 s51.ok
    have E55 := E51.step t55 id
    have C55 := (hC.step s51').step t55
    refine ⟨X55.cell hc4 id, ?_⟩
    obtain ⟨a8, n8, c8, w59, o59, hrun8, s59, hcan8, hst8⟩ := E55.pushOld (x := ⟨oa, oc, cg.old⟩) t55.ok (by show R.olds.length < 1000000; omega) ⟨C55.old, hoc⟩ b55 (X55.cell hc4 id)
    have a30 : ((blk q).add 3).add 0 = (blk q).add 3 := by rw [add_add]
    refine ⟨a8, n8, c8, w59, hrun8, ?_⟩
    rw [a30]
    refine ⟨hcan8, Q01 fun w60 e60 => ?_⟩
    obtain ⟨s60, E60⟩ := hst8 w60 e60
    have s60' : Step (fun i => i = q) w o w60 _ := (s51'.trans t55.none).trans s60
    have E60 : MG w60 (grow w59 o59) q { R with keys := R.keys ++ [x], olds := R.olds ++ [cg.old] } := E60
    have fin : Value.int .i64 (toldBy S R cg).2 = .int .i64 (learnK S R cg).2 ∧ ∃ o', Step (fun i => i = q) w o w60 o' ∧ MG w60 o' q (learnK S R cg).1 := by rw [hK]; exact ⟨rfl, _, s60', E60⟩
    obtain ⟨ka3, kc3, hc60⟩ := E60.keysC
    have hkl : (R.keys ++ [x]).length = R.keys.length + 1 := by simp
    have hc60 : w60.cell? ((blk q).add 2) = some (.slice ka3 (R.keys ++ [x]).length kc3) := hc60
    refine ⟨_, _, _, hc60, by omega, by omega, ?_⟩
    refine ⟨fun m vs w1 => vs = [.int .i64 (((R.keys ++ [x]).length : Int) - 1)] ∧ w1 = w60, 0, ⟨rfl, rfl⟩, ?_⟩
    rintro m2 w66 ev ⟨hev, rfl⟩
    simp only [List.cons.injEq, Value.int.injEq, true_and, and_true] at hev
    subst hev
    refine ⟨fun hgt => ?_, fun _ => fin⟩
    have e1 : Int.toNat (((R.keys ++ [x]).length : Int) - 1) = R.keys.length := by omega
    have e2 : Int.toNat (((R.keys ++ [x]).length : Int) - 1 - 1) = R.keys.length - 1 := by omega
    obtain ⟨ka4, kc4, ad4, cc4, ha4, v4⟩ := E60.key (i := R.keys.length) (by show R.keys.length < (R.keys ++ [x]).length; omega)
    have v4 : w66.cell? (ad4.add (R.keys.length * 1)) = some (.int .u64 ((R.keys ++ [x])[R.keys.length]?.getD 0)) := v4
    refine ⟨_, _, _, cc4, ad4, ha4, by omega, by show (((R.keys ++ [x]).length : Int) - 1) < ((R.keys ++ [x]).length : Int); omega, _, by rw [e1]; exact v4, fun hn1 => ?_, fun _ => fin⟩
    obtain ⟨ka5, kc5, ad5, cc5, ha5, v5⟩ := E60.key (i := R.keys.length - 1) (by show R.keys.length - 1 < (R.keys ++ [x]).length; omega)
    have v5 : w66.cell? (ad5.add ((R.keys.length - 1) * 1)) = some (.int .u64 ((R.keys ++ [x])[R.keys.length - 1]?.getD 0)) := v5
    refine ⟨_, _, _, cc5, by omega, by omega, ad5, ha5, by omega, by show (((R.keys ++ [x]).length : Int) - 1 - 1) < ((R.keys ++ [x]).length : Int); omega, _, by rw [e2]; exact v5, fun hz => ?_, fun _ => fin⟩
    exfalso
    rw [List.getElem?_append_left (by omega), List.getElem?_eq_getElem (by omega)] at hz
    exact hnz _ (List.getElem_mem _) hz
end
end Go.Proofs.Ytaifegpikhjiiaa