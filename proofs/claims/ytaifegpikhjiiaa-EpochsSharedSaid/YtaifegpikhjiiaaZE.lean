/- Epochs: predicates. -/
import Derived.Test.YtaifegpikhjiiaaZC
import Derived.Test.YtaifegpikhjiiaaZD
import Derived.Test.YtaifegpikhjiiaaZA
set_option linter.unusedVariables false
set_option linter.unusedSimpArgs false
set_option maxRecDepth 100000
set_option maxHeartbeats 4000000
namespace Go.Proofs.Ytaifegpikhjiiaa
open Go Go.Mx Go.Proofs
def epochs_New.M (o1 : Option Addr) (a1 : Int) (a0 : Int) (R : Value → World → Prop) (w : World) : Prop :=
 bif decide (a1 < 0) then (
 R (.tuple #[.pointer none, .int .i64 1]) w) else (
 bif decide (a1 ≥ 8) then (
 R (.tuple #[.pointer none, .int .i64 1]) w) else (
 bif Option.isNone o1 then (
 R (.tuple #[.pointer none, .int .i64 23]) w) else (
 thenW (w.alloc (.cells #[.pointer o1, .int .i64 a1, .int .u64 a0, .slice none 0 0, .slice none 0 0] 93)) fun a2 =>
 R (.tuple #[.pointer (some (blk w.heap.size)), .int .i64 0]) a2)))

theorem epochs_New.eq (o1 : Option Addr) (who2 : Int) (secret3 : Int) (R : Value → World → Prop) (w : World) : mfunc Try.prog [] 19 [.pointer o1, .int .i64 who2, .int .u64 secret3] R w = epochs_New.M o1 who2 secret3 R w := by kernel_rfl
theorem epochs_New.ok (o1 : Option Addr) (a1 : Int) (a0 : Int) {R : Value → World → Prop} {w : World} (h : epochs_New.M o1 a1 a0 R w) : Calls Try.prog 19 #[.pointer o1, .int .i64 a1, .int .u64 a0] w fun e w' => ∃ v, e = .returned v ∧ R v w' :=
  mfunc_ok follows (H := []) (args := [.pointer o1, .int .i64 a1, .int .u64 a0]) (by rw [epochs_New.eq]; exact h)

def epochs_New.N (o1 : Option Addr) (a0 : Int) (a1 : Int) (R : Value → World → Prop) (w : World) : Prop :=
 (a0 < 0 →
 R (.tuple #[.pointer none, .int .i64 1]) w) ∧
 ((0 : Int) ≤ a0 →
 (a0 ≥ 8 →
 R (.tuple #[.pointer none, .int .i64 1]) w) ∧
 (a0 < 8 →
 (o1 = none →
 R (.tuple #[.pointer none, .int .i64 23]) w) ∧
 (o1 ≠ none →
 ∀ (a2 : World) (q8 : Nat), Ext no w a2 → Blk a2 q8 93 [.pointer o1, .int .i64 a0, .int .u64 a1, .slice none 0 0, .slice none 0 0] → w.heap.size ≤ q8 → q8 < a2.heap.size →
 R (.tuple #[.pointer (some (blk q8)), .int .i64 0]) a2)))

theorem epochs_New.up (o1 : Option Addr) (a1 : Int) (a0 : Int) {R : Value → World → Prop} {w : World} (h : epochs_New.N o1 a1 a0 R w) : epochs_New.M o1 a1 a0 R w := by
  unfold epochs_New.M
  unfold epochs_New.N at h
  refine bif_of (fun c4 => ?_) (fun c4 => ?_)
  ·have h := h.1 (of_decide_eq_true c4)
   exact h
  have h := h.2 (Int.not_lt.1 (of_decide_eq_false c4))
  refine bif_of (fun c5 => ?_) (fun c5 => ?_)
  ·have h := h.1 (of_decide_eq_true c5)
   exact h
  have h := h.2 (Int.not_le.1 (of_decide_eq_false c5))
  refine bif_of (fun c6 => ?_) (fun c6 => ?_)
  ·have h := h.1 (isNone_t c6)
   exact h
  have h := h.2 (isNone_f c6)
  refine thenW_in fun a2 e7 => ?_
  have h := h a2 w.heap.size ((Ext.refl no w).x_alloc e7) (Blk.of_new e7) ((Ext.refl no w)).size (size_lt_alloc e7)
  exact h

theorem epochs_New.go (o1 : Option Addr) (a1 : Int) (a0 : Int) {R : Value → World → Prop} {w : World} (h : epochs_New.N o1 a1 a0 R w) : Calls Try.prog 19 #[.pointer o1, .int .i64 a1, .int .u64 a0] w fun e w' => ∃ v, e = .returned v ∧ R v w' := epochs_New.ok o1 a1 a0 (epochs_New.up o1 a1 a0 h)
def epochs_Ring_Count.M (r1 : Option Addr) (R : Value → World → Prop) (w : World) : Prop :=
 bif Option.isNone r1 then (
 R (.int .i64 0) w) else (
 r1.elim False fun a2 =>
 ∃ (a3 : Option Addr) (a0 : Nat) (a1 : Nat), w.cell? (a2.add 3) = some (.slice a3 a0 a1) ∧
 R (.int .i64 (a0 : Int)) w)

theorem epochs_Ring_Count.eq (r1 : Option Addr) (R : Value → World → Prop) (w : World) : mfunc Try.prog [] 21 [.pointer r1] R w = epochs_Ring_Count.M r1 R w := by kernel_rfl
theorem epochs_Ring_Count.ok (r1 : Option Addr) {R : Value → World → Prop} {w : World} (h : epochs_Ring_Count.M r1 R w) : Calls Try.prog 21 #[.pointer r1] w fun e w' => ∃ v, e = .returned v ∧ R v w' :=
  mfunc_ok follows (H := []) (args := [.pointer r1]) (by rw [epochs_Ring_Count.eq]; exact h)

def epochs_Ring_Count.N (r1 : Option Addr) (R : Value → World → Prop) (w : World) : Prop :=
 (r1 = none →
 R (.int .i64 0) w) ∧
 (r1 ≠ none →
 ∃ a3 : Addr, r1 = some a3 ∧
 ∃ (a1 : Option Addr) (a0 : Nat) (a2 : Nat), w.cell? (a3.add 3) = some (.slice a1 a0 a2) ∧
 R (.int .i64 (a0 : Int)) w)

theorem epochs_Ring_Count.up (r1 : Option Addr) {R : Value → World → Prop} {w : World} (h : epochs_Ring_Count.N r1 R w) : epochs_Ring_Count.M r1 R w := by
  unfold epochs_Ring_Count.M
  unfold epochs_Ring_Count.N at h
  refine bif_of (fun c2 => ?_) (fun c2 => ?_)
  ·have h := h.1 (isNone_t c2)
   exact h
  have h := h.2 (isNone_f c2)
  obtain ⟨a3, a4, h⟩ := h
  refine elim_some a4 ?_
  obtain ⟨a1, a0, a2, a5, h⟩ := h
  refine ⟨a1, a0, a2, a5, ?_⟩
  exact h

theorem epochs_Ring_Count.go (r1 : Option Addr) {R : Value → World → Prop} {w : World} (h : epochs_Ring_Count.N r1 R w) : Calls Try.prog 21 #[.pointer r1] w fun e w' => ∃ v, e = .returned v ∧ R v w' := epochs_Ring_Count.ok r1 (epochs_Ring_Count.up r1 h)
theorem epochs_Ring_Count.run (r1 : Option Addr) {V : Value} {Q : World → Prop} {w : World} (h : epochs_Ring_Count.N r1 (fun v w' => v = V ∧ Q w') w) : Calls Try.prog 21 #[.pointer r1] w (Ret V Q) := (epochs_Ring_Count.go r1 h).mono fun e w' ⟨v, he, hv, hq⟩ => ⟨by rw [he, hv], hq⟩

def epochs_Ring_Key.M (r1 : Option Addr) (a0 : Int) (R : Value → World → Prop) (w : World) : Prop :=
 bif Option.isNone r1 then (
 R (.tuple #[.int .u64 0, .int .i64 23]) w) else (
 bif decide (a0 < 0) then (
 R (.tuple #[.int .u64 0, .int .i64 2]) w) else (
 r1.elim False fun a3 =>
 ∃ (ab : Option Addr) (a8 : Nat) (ad : Nat), w.cell? (a3.add 3) = some (.slice ab a8 ad) ∧
 bif decide (a0 ≥ (a8 : Int)) then (
 R (.tuple #[.int .u64 0, .int .i64 2]) w) else (
 r1.elim False fun a5 =>
 ∃ (a6 : Option Addr) (a4 : Nat) (ac : Nat), w.cell? (a5.add 3) = some (.slice a6 a4 ac) ∧
 a6.elim False fun a7 =>
 0 ≤ (a0 : Int) ∧ (a0 : Int) < (a4 : Int) ∧
 ∃ (x8 : Int), w.cell? (a7.add (Int.toNat a0 * 1)) = some (.int .u64 x8) ∧
 bif x8 == 0 then (
 R (.tuple #[.int .u64 0, .int .i64 11]) w) else (
 r1.elim False fun a9 =>
 ∃ (a1 : Option Addr) (a2 : Nat) (aa : Nat), w.cell? (a9.add 3) = some (.slice a1 a2 aa) ∧
 a1.elim False fun af =>
 0 ≤ (a0 : Int) ∧ (a0 : Int) < (a2 : Int) ∧
 ∃ (ae : Int), w.cell? (af.add (Int.toNat a0 * 1)) = some (.int .u64 ae) ∧
 R (.tuple #[.int .u64 ae, .int .i64 0]) w))))

theorem epochs_Ring_Key.eq (r1 : Option Addr) (epoch2 : Int) (R : Value → World → Prop) (w : World) : mfunc Try.prog [] 8 [.pointer r1, .int .i64 epoch2] R w = epochs_Ring_Key.M r1 epoch2 R w := by kernel_rfl
theorem epochs_Ring_Key.ok (r1 : Option Addr) (a0 : Int) {R : Value → World → Prop} {w : World} (h : epochs_Ring_Key.M r1 a0 R w) : Calls Try.prog 8 #[.pointer r1, .int .i64 a0] w fun e w' => ∃ v, e = .returned v ∧ R v w' :=
  mfunc_ok follows (H := []) (args := [.pointer r1, .int .i64 a0]) (by rw [epochs_Ring_Key.eq]; exact h)

def epochs_Ring_Key.N (r1 : Option Addr) (a0 : Int) (R : Value → World → Prop) (w : World) : Prop :=
 (r1 = none →
 R (.tuple #[.int .u64 0, .int .i64 23]) w) ∧
 (r1 ≠ none →
 (a0 < 0 →
 R (.tuple #[.int .u64 0, .int .i64 2]) w) ∧
 ((0 : Int) ≤ a0 →
 ∃ a5 : Addr, r1 = some a5 ∧
 ∃ (aa : Option Addr) (a1 : Nat) (a9 : Nat), w.cell? (a5.add 3) = some (.slice aa a1 a9) ∧
 (a0 ≥ (a1 : Int) →
 R (.tuple #[.int .u64 0, .int .i64 2]) w) ∧
 (a0 < (a1 : Int) →
 ∃ (a2 : Option Addr) (a4 : Nat) (a7 : Nat), w.cell? (a5.add 3) = some (.slice a2 a4 a7) ∧
 ∃ ac : Addr, a2 = some ac ∧
 0 ≤ (a0 : Int) ∧ (a0 : Int) < (a4 : Int) ∧
 ∃ (ab : Int), w.cell? (ac.add (Int.toNat a0 * 1)) = some (.int .u64 ab) ∧
 (ab = 0 →
 R (.tuple #[.int .u64 0, .int .i64 11]) w) ∧
 (ab ≠ 0 →
 ∃ (a3 : Option Addr) (a6 : Nat) (a8 : Nat), w.cell? (a5.add 3) = some (.slice a3 a6 a8) ∧
 ∃ ad : Addr, a3 = some ad ∧
 0 ≤ (a0 : Int) ∧ (a0 : Int) < (a6 : Int) ∧
 ∃ (ae : Int), w.cell? (ad.add (Int.toNat a0 * 1)) = some (.int .u64 ae) ∧
 R (.tuple #[.int .u64 ae, .int .i64 0]) w))))

theorem epochs_Ring_Key.up (r1 : Option Addr) (a0 : Int) {R : Value → World → Prop} {w : World} (h : epochs_Ring_Key.N r1 a0 R w) : epochs_Ring_Key.M r1 a0 R w := by
  unfold epochs_Ring_Key.M
  unfold epochs_Ring_Key.N at h
  refine bif_of (fun c3 => ?_) (fun c3 => ?_)
  ·have h := h.1 (isNone_t c3)
   exact h
  have h := h.2 (isNone_f c3)
  refine bif_of (fun c4 => ?_) (fun c4 => ?_)
  ·have h := h.1 (of_decide_eq_true c4)
   exact h
  have h := h.2 (Int.not_lt.1 (of_decide_eq_false c4))
  obtain ⟨a5, ah, h⟩ := h
  refine elim_some ah ?_
  obtain ⟨a8, aa, a9, am, h⟩ := h
  refine ⟨a8, aa, a9, am, ?_⟩
  refine bif_of (fun c8 => ?_) (fun c8 => ?_)
  ·have h := h.1 (of_decide_eq_true c8)
   exact h
  have h := h.2 (Int.not_le.1 (of_decide_eq_false c8))
  refine elim_some ah ?_
  obtain ⟨a1, a2, a3, al, h⟩ := h
  refine ⟨a1, a2, a3, al, ?_⟩
  obtain ⟨ao, af, h⟩ := h
  refine elim_some af ?_
  obtain ⟨ab, ag, h⟩ := h
  refine ⟨ab, ag, ?_⟩
  obtain ⟨ak, ai, h⟩ := h
  refine ⟨ak, ai, ?_⟩
  refine bif_of (fun aj => ?_) (fun aj => ?_)
  ·have h := h.1 (beq_t aj)
   exact h
  have h := h.2 (beq_f aj)
  refine elim_some ah ?_
  obtain ⟨a6, a7, a4, ac, h⟩ := h
  refine ⟨a6, a7, a4, ac, ?_⟩
  obtain ⟨ap, ad, h⟩ := h
  refine elim_some ad ?_
  obtain ⟨ab, ag, h⟩ := h
  refine ⟨ab, ag, ?_⟩
  obtain ⟨an, ae, h⟩ := h
  refine ⟨an, ae, ?_⟩
  exact h

theorem epochs_Ring_Key.go (r1 : Option Addr) (a0 : Int) {R : Value → World → Prop} {w : World} (h : epochs_Ring_Key.N r1 a0 R w) : Calls Try.prog 8 #[.pointer r1, .int .i64 a0] w fun e w' => ∃ v, e = .returned v ∧ R v w' := epochs_Ring_Key.ok r1 a0 (epochs_Ring_Key.up r1 a0 h)
theorem epochs_Ring_Key.run (r1 : Option Addr) (a0 : Int) {V : Value} {Q : World → Prop} {w : World} (h : epochs_Ring_Key.N r1 a0 (fun v w' => v = V ∧ Q w') w) : Calls Try.prog 8 #[.pointer r1, .int .i64 a0] w (Ret V Q) := (epochs_Ring_Key.go r1 a0 h).mono fun e w' ⟨v, he, hv, hq⟩ => ⟨by rw [he, hv], hq⟩

def epochs_bound.M (a3 : Int) (R : Value → World → Prop) (w : World) : Prop :=
 Calls Try.prog 62 #[.slice none 0 0, .int .u64 (IntKind.u64.wrap a3)] w fun a4 a5 => ∃ (a0 : Option Addr) (a2 : Nat) (a1 : Nat), a4 = .returned (.slice a0 a2 a1) ∧
 R (.slice a0 a2 a1) a5

theorem epochs_bound.eq (epoch1 : Int) (R : Value → World → Prop) (w : World) : mfunc Try.prog [] 32 [.int .i64 epoch1] R w = epochs_bound.M epoch1 R w := by kernel_rfl
theorem epochs_bound.ok (a0 : Int) {R : Value → World → Prop} {w : World} (h : epochs_bound.M a0 R w) : Calls Try.prog 32 #[.int .i64 a0] w fun e w' => ∃ v, e = .returned v ∧ R v w' :=
  mfunc_ok follows (H := []) (args := [.int .i64 a0]) (by rw [epochs_bound.eq]; exact h)

def epochs_bound.N (a3 : Int) (R : Value → World → Prop) (w : World) : Prop :=
 Calls Try.prog 62 #[.slice none 0 0, .int .u64 (IntKind.u64.wrap a3)] w fun a4 a5 => ∃ (a0 : Option Addr) (a2 : Nat) (a1 : Nat), a4 = .returned (.slice a0 a2 a1) ∧
 R (.slice a0 a2 a1) a5

theorem epochs_bound.up (a0 : Int) {R : Value → World → Prop} {w : World} (h : epochs_bound.N a0 R w) : epochs_bound.M a0 R w := by
  unfold epochs_bound.M
  unfold epochs_bound.N at h
  refine h.mono fun a4 a5 h => ?_
  obtain ⟨a1, a3, a2, he, h⟩ := h
  refine ⟨a1, a3, a2, he, ?_⟩
  exact h

theorem epochs_bound.go (a0 : Int) {R : Value → World → Prop} {w : World} (h : epochs_bound.N a0 R w) : Calls Try.prog 32 #[.int .i64 a0] w fun e w' => ∃ v, e = .returned v ∧ R v w' := epochs_bound.ok a0 (epochs_bound.up a0 h)
abbrev epochs_eight.J1 (j8 : Option Addr) (j9 : Nat) (a8 : Nat) (a6 : Int) (I0 : Nat → List Value → World → Prop) (m5 : Nat) (n1 : Int) (R : Value → World → Prop) (a4 : World) : Prop :=
 0 ≤ ((IntKind.i64.wrap ((56 : Int) - (IntKind.i64.wrap ((8 : Int) * a6)))) : Int) ∧
 thenW (a4.alloc (.cells #[.int .u8 (IntKind.u8.wrap (Int.fdiv n1 (2 ^ (min (Int.toNat (IntKind.i64.wrap ((56 : Int) - (IntKind.i64.wrap ((8 : Int) * a6))))) (IntKind.bits .u64)))))] 5)) fun a5 =>
 ∃ (a1 : Option Addr) (a3 : Nat) (a0 : Nat) (a2 : World), (Builtin.append_ #[29, 29] 29 #[.slice j8 j9 a8, .slice (some (blk a4.heap.size)) 1 1]).run Try.prog a5 = .ok (.slice a1 a3 a0) a2 ∧
 ∃ a7, a7 < m5 ∧ I0 a7 [.slice a1 a3 a0, .int .i64 (IntKind.i64.wrap (a6 + 1))] a2

def epochs_eight.M (n1 : Int) (R : Value → World → Prop) (w : World) : Prop :=
 ∃ (I0 : Nat → List Value → World → Prop) (m4 : Nat), I0 m4 [.slice none 0 0, .int .i64 0] w ∧ ∀ (m5 : Nat) (a0 : World) (a2 : Option Addr) (a3 : Nat) (a1 : Nat) (t3 : Int), I0 m5 [.slice a2 a3 a1, .int .i64 t3] a0 →
 bif decide (t3 < 8) then (
 epochs_eight.J1 a2 a3 a1 t3 I0 m5 n1 R a0) else (
 R (.slice a2 a3 a1) a0)

theorem epochs_eight.eq (n1 : Int) (R : Value → World → Prop) (w : World) : mfunc Try.prog [(0, [0], [(2, (.one .slice)), (4, (.one (.int .i64)))])] 33 [.int .u64 n1] R w = epochs_eight.M n1 R w := by kernel_rfl
theorem epochs_eight.ok (n1 : Int) {R : Value → World → Prop} {w : World} (h : epochs_eight.M n1 R w) : Calls Try.prog 33 #[.int .u64 n1] w fun e w' => ∃ v, e = .returned v ∧ R v w' :=
  mfunc_ok follows (H := [(0, [0], [(2, (.one .slice)), (4, (.one (.int .i64)))])]) (args := [.int .u64 n1]) (by rw [epochs_eight.eq]; exact h)

def epochs_eight.N (n1 : Int) (R : Value → World → Prop) (w : World) : Prop :=
 ∃ (I0 : Nat → List Value → World → Prop) (m4 : Nat), I0 m4 [.slice none 0 0, .int .i64 0] w ∧ ∀ (m5 : Nat) (a4 : World) (a8 : Option Addr) (a6 : Nat) (a7 : Nat) (t3 : Int), I0 m5 [.slice a8 a6 a7, .int .i64 t3] a4 →
 (t3 < 8 →
 (-9223372036854775808 : Int) ≤ ((8 : Int) * t3) ∧ ((8 : Int) * t3) < 9223372036854775808 ∧
 (-9223372036854775808 : Int) ≤ ((56 : Int) - ((8 : Int) * t3)) ∧ ((56 : Int) - ((8 : Int) * t3)) < 9223372036854775808 ∧
 0 ≤ (((56 : Int) - ((8 : Int) * t3)) : Int) ∧
 ∀ (a5 : World) (q9 : Nat), Ext no a4 a5 → Blk a5 q9 5 [.int .u8 (IntKind.u8.wrap (Int.fdiv n1 (2 ^ (min (Int.toNat ((56 : Int) - ((8 : Int) * t3))) (IntKind.bits .u64)))))] → a4.heap.size ≤ q9 → q9 < a5.heap.size →
 ∃ (a0 : Option Addr) (a1 : Nat) (a2 : Nat) (a3 : World), (Builtin.append_ #[29, 29] 29 #[.slice a8 a6 a7, .slice (some (blk q9)) 1 1]).run Try.prog a5 = .ok (.slice a0 a1 a2) a3 ∧
 (-9223372036854775808 : Int) ≤ (t3 + 1) ∧ (t3 + 1) < 9223372036854775808 ∧
 ∃ a9, a9 < m5 ∧ I0 a9 [.slice a0 a1 a2, .int .i64 (t3 + 1)] a3) ∧
 ((8 : Int) ≤ t3 →
 R (.slice a8 a6 a7) a4)

theorem epochs_eight.up (n1 : Int) {R : Value → World → Prop} {w : World} (h : epochs_eight.N n1 R w) : epochs_eight.M n1 R w := by
  unfold epochs_eight.M
  unfold epochs_eight.N at h
  obtain ⟨I0, m4, h0, h⟩ := h
  refine ⟨I0, m4, h0, fun m5 a2 aa a7 a9 t3 hI => ?_⟩
  have h := h m5 a2 aa a7 a9 t3 hI
  refine bif_fo (fun c7 => ?_) (fun c7 => ?_)
  ·have h := h.2 (Int.not_lt.1 (of_decide_eq_false c7))
   exact h
  have h := h.1 (of_decide_eq_true c7)
  unfold epochs_eight.J1
  obtain ⟨a1, a0, h⟩ := h
  try rw [w64 a1 a0]
  obtain ⟨a1, a0, h⟩ := h
  try rw [w64 a1 a0]
  obtain ⟨hp, h⟩ := h
  refine ⟨hp, ?_⟩
  refine thenW_in fun a8 e8 => ?_
  have h := h a8 a2.heap.size ((Ext.refl no a2).x_alloc e8) (Blk.of_new e8) ((Ext.refl no a2)).size (size_lt_alloc e8)
  obtain ⟨a3, a4, a5, a6, hr, h⟩ := h
  refine ⟨a3, a4, a5, a6, hr, ?_⟩
  obtain ⟨a1, a0, h⟩ := h
  try rw [w64 a1 a0]
  obtain ⟨ab, hk, h⟩ := h
  exact ⟨ab, hk, h⟩

theorem epochs_eight.go (n1 : Int) {R : Value → World → Prop} {w : World} (h : epochs_eight.N n1 R w) : Calls Try.prog 33 #[.int .u64 n1] w fun e w' => ∃ v, e = .returned v ∧ R v w' := epochs_eight.ok n1 (epochs_eight.up n1 h)
abbrev epochs_Ring_back.J1 (a8 : Int) (I0 : Nat → List Value → World → Prop) (m6 : Nat) (r1 : Option Addr) (R : Value → World → Prop) (ax : World) : Prop :=
 thenW (ax.drew) fun ai =>
 r1.elim False fun b2 =>
 ∃ (aw : Option Addr), ai.cell? (b2.add 0) = some (.pointer aw) ∧
 r1.elim False fun b8 =>
 ∃ (a2 : Option Addr) (a4 : Nat) (ag : Nat), ai.cell? (b8.add 3) = some (.slice a2 a4 ag) ∧
 a2.elim False fun ba =>
 0 ≤ (a8 : Int) ∧ (a8 : Int) < (a4 : Int) ∧
 ∃ (az : Int), ai.cell? (ba.add (Int.toNat a8 * 1)) = some (.int .u64 az) ∧
 r1.elim False fun b3 =>
 ∃ (a3 : Option Addr) (a1 : Nat) (ad : Nat), ai.cell? (b3.add 4) = some (.slice a3 a1 ad) ∧
 a3.elim False fun b7 =>
 0 ≤ (a8 : Int) ∧ (a8 : Int) < (a1 : Int) ∧
 ∃ (ao : Option Addr) (aq : Nat) (ar : Nat), ai.cell? (b7.add (Int.toNat a8 * 1)) = some (.slice ao aq ar) ∧
 Calls Try.prog 32 #[.int .i64 a8] ai fun av ah => ∃ (a5 : Option Addr) (a6 : Nat) (a9 : Nat), av = .returned (.slice a5 a6 a9) ∧
 ah.cell? (b7.add (Int.toNat a8 * 1)) = some (.slice ao aq ar) ∧
 ah.cell? (b3.add 4) = some (.slice a3 a1 ad) ∧
 ah.cell? (ba.add (Int.toNat a8 * 1)) = some (.int .u64 az) ∧
 ah.cell? (b8.add 3) = some (.slice a2 a4 ag) ∧
 ah.cell? (b2.add 0) = some (.pointer aw) ∧
 Calls Try.prog 69 #[.pointer aw, .int .u64 az, .slice a5 a6 a9, .slice ao aq ar] ah fun ay ap => ∃ (a7 : Option Addr) (a0 : Nat) (aj : Nat) (ab : Int), ay = .returned (.tuple #[.slice a7 a0 aj, .int .i64 ab]) ∧
 bif ab != 0 then (
 R (.tuple #[]) ap) else (
 bif (a0 : Int) != 8 then (
 R (.tuple #[]) ap) else (
 ∃ (I2 : Nat → List Value → World → Prop) (bf : Nat), I2 bf [.int .i64 0] ap ∧ ∀ (b9 : Nat) (al : World) (au : Int), I2 b9 [.int .i64 au] al →
 bif decide (au < (a0 : Int)) then (
 a7.elim False fun bg =>
 0 ≤ (au : Int) ∧ (au : Int) < (a0 : Int) ∧
 ∃ (b4 : Int), al.cell? (bg.add (Int.toNat au * 1)) = some (.int .u8 b4) ∧
 thenW (al.drew) fun ak =>
 r1.elim False fun be =>
 ∃ (af : Option Addr) (ae : Nat) (an : Nat), ak.cell? (be.add 3) = some (.slice af ae an) ∧
 r1.elim False fun bd =>
 ∃ (aa : Option Addr) (ac : Nat) (am : Nat), ak.cell? (bd.add 3) = some (.slice aa ac am) ∧
 aa.elim False fun bc =>
 0 ≤ ((IntKind.i64.wrap (a8 - 1)) : Int) ∧ ((IntKind.i64.wrap (a8 - 1)) : Int) < (ac : Int) ∧
 ∃ (bb : Int), ak.cell? (bc.add (Int.toNat (IntKind.i64.wrap (a8 - 1)) * 1)) = some (.int .u64 bb) ∧
 0 ≤ (8 : Int) ∧
 af.elim False fun b1 =>
 0 ≤ ((IntKind.i64.wrap (a8 - 1)) : Int) ∧ ((IntKind.i64.wrap (a8 - 1)) : Int) < (ae : Int) ∧
 canStore ak ((b1.add (Int.toNat (IntKind.i64.wrap (a8 - 1)) * 1)).add 0) ∧
 thenW (ak.setCell ((b1.add (Int.toNat (IntKind.i64.wrap (a8 - 1)) * 1)).add 0) (.int .u64 (IntKind.u64.wrap ((BitVec.ofInt (IntKind.bits .u64) (IntKind.u64.wrap (bb * 2 ^ (min (Int.toNat 8) (IntKind.bits .u64)))) ||| BitVec.ofInt (IntKind.bits .u64) (IntKind.u64.wrap b4)).toNat)))) fun b0 =>
 ∃ b5, b5 < b9 ∧ I2 b5 [.int .i64 (IntKind.i64.wrap (au + 1))] b0) else (
 ∃ b6, b6 < m6 ∧ I0 b6 [.int .i64 (IntKind.i64.wrap (a8 - 1))] al)))

def epochs_Ring_back.M (r1 : Option Addr) (R : Value → World → Prop) (w : World) : Prop :=
 r1.elim False fun a2 =>
 ∃ (aa : Option Addr) (a5 : Nat) (ac : Nat), w.cell? (a2.add 3) = some (.slice aa a5 ac) ∧
 ∃ (I0 : Nat → List Value → World → Prop) (m5 : Nat), I0 m5 [.int .i64 (IntKind.i64.wrap ((a5 : Int) - 1))] w ∧ ∀ (m6 : Nat) (a7 : World) (a6 : Int), I0 m6 [.int .i64 a6] a7 →
 bif decide (a6 > 0) then (
 r1.elim False fun a8 =>
 ∃ (a3 : Option Addr) (a4 : Nat) (ab : Nat), a7.cell? (a8.add 3) = some (.slice a3 a4 ab) ∧
 a3.elim False fun ah =>
 0 ≤ (a6 : Int) ∧ (a6 : Int) < (a4 : Int) ∧
 ∃ (ad : Int), a7.cell? (ah.add (Int.toNat a6 * 1)) = some (.int .u64 ad) ∧
 bif ad != 0 then (
 r1.elim False fun ag =>
 ∃ (a0 : Option Addr) (a1 : Nat) (a9 : Nat), a7.cell? (ag.add 3) = some (.slice a0 a1 a9) ∧
 a0.elim False fun af =>
 0 ≤ ((IntKind.i64.wrap (a6 - 1)) : Int) ∧ ((IntKind.i64.wrap (a6 - 1)) : Int) < (a1 : Int) ∧
 ∃ (ae : Int), a7.cell? (af.add (Int.toNat (IntKind.i64.wrap (a6 - 1)) * 1)) = some (.int .u64 ae) ∧
 bif ae == 0 then (
 epochs_Ring_back.J1 a6 I0 m6 r1 R a7) else (
 R (.tuple #[]) a7)) else (
 R (.tuple #[]) a7)) else (
 R (.tuple #[]) a7)

theorem epochs_Ring_back.eq (r1 : Option Addr) (R : Value → World → Prop) (w : World) : mfunc Try.prog [(0, [0], [(2, (.one (.int .i64)))]), (2, [0, 2, 69, 70], [(71, (.one (.int .i64)))])] 41 [.pointer r1] R w = epochs_Ring_back.M r1 R w := by kernel_rfl
theorem epochs_Ring_back.ok (r1 : Option Addr) {R : Value → World → Prop} {w : World} (h : epochs_Ring_back.M r1 R w) : Calls Try.prog 41 #[.pointer r1] w fun e w' => ∃ v, e = .returned v ∧ R v w' :=
  mfunc_ok follows (H := [(0, [0], [(2, (.one (.int .i64)))]), (2, [0, 2, 69, 70], [(71, (.one (.int .i64)))])]) (args := [.pointer r1]) (by rw [epochs_Ring_back.eq]; exact h)

def epochs_Ring_back.N (r1 : Option Addr) (R : Value → World → Prop) (w : World) : Prop :=
 ∃ a2 : Addr, r1 = some a2 ∧
 ∃ (b3 : Option Addr) (a4 : Nat) (ay : Nat), w.cell? (a2.add 3) = some (.slice b3 a4 ay) ∧
 (-9223372036854775808 : Int) ≤ ((a4 : Int) - 1) ∧ ((a4 : Int) - 1) < 9223372036854775808 ∧
 ∃ (I0 : Nat → List Value → World → Prop) (m6 : Nat), I0 m6 [.int .i64 ((a4 : Int) - 1)] w ∧ ∀ (m7 : Nat) (ae : World) (a1 : Int), I0 m7 [.int .i64 a1] ae →
 (a1 > 0 →
 ∃ (an : Option Addr) (af : Nat) (ax : Nat), ae.cell? (a2.add 3) = some (.slice an af ax) ∧
 ∃ bm : Addr, an = some bm ∧
 0 ≤ (a1 : Int) ∧ (a1 : Int) < (af : Int) ∧
 ∃ (ba : Int), ae.cell? (bm.add (Int.toNat a1 * 1)) = some (.int .u64 ba) ∧
 (ba ≠ 0 →
 ∃ (ag : Option Addr) (ah : Nat) (au : Nat), ae.cell? (a2.add 3) = some (.slice ag ah au) ∧
 (-9223372036854775808 : Int) ≤ (a1 - 1) ∧ (a1 - 1) < 9223372036854775808 ∧
 ∃ bl : Addr, ag = some bl ∧
 0 ≤ ((a1 - 1) : Int) ∧ ((a1 - 1) : Int) < (ah : Int) ∧
 ∃ (b8 : Int), ae.cell? (bl.add (Int.toNat (a1 - 1) * 1)) = some (.int .u64 b8) ∧
 (b8 = 0 →
 ∃ (bd : Option Addr), ae.cell? (a2.add 0) = some (.pointer bd) ∧
 ∃ (a3 : Option Addr) (a7 : Nat) (aj : Nat), ae.cell? (a2.add 3) = some (.slice a3 a7 aj) ∧
 ∃ b7 : Addr, a3 = some b7 ∧
 0 ≤ (a1 : Int) ∧ (a1 : Int) < (a7 : Int) ∧
 ∃ (bb : Int), ae.cell? (b7.add (Int.toNat a1 * 1)) = some (.int .u64 bb) ∧
 ∃ (a6 : Option Addr) (a5 : Nat) (al : Nat), ae.cell? (a2.add 4) = some (.slice a6 a5 al) ∧
 ∃ bc : Addr, a6 = some bc ∧
 0 ≤ (a1 : Int) ∧ (a1 : Int) < (a5 : Int) ∧
 ∃ (az : Option Addr) (b1 : Nat) (b0 : Nat), ae.cell? (bc.add (Int.toNat a1 * 1)) = some (.slice az b1 b0) ∧
 ∀ (b5 : World), Ext no ae b5 →
 Calls Try.prog 32 #[.int .i64 a1] b5 fun b6 ap => ∃ (a9 : Option Addr) (ac : Nat) (ab : Nat), b6 = .returned (.slice a9 ac ab) ∧
 ap.cell? (bc.add (Int.toNat a1 * 1)) = some (.slice az b1 b0) ∧
 ap.cell? (a2.add 4) = some (.slice a6 a5 al) ∧
 ap.cell? (b7.add (Int.toNat a1 * 1)) = some (.int .u64 bb) ∧
 ap.cell? (a2.add 3) = some (.slice a3 a7 aj) ∧
 ap.cell? (a2.add 0) = some (.pointer bd) ∧
 Calls Try.prog 69 #[.pointer bd, .int .u64 bb, .slice a9 ac ab, .slice az b1 b0] ap fun be b4 => ∃ (aa : Option Addr) (a0 : Nat) (aq : Nat) (a8 : Int), be = .returned (.tuple #[.slice aa a0 aq, .int .i64 a8]) ∧
 (a8 ≠ 0 →
 R (.tuple #[]) b4) ∧
 (a8 = 0 →
 ((a0 : Int) ≠ 8 →
 R (.tuple #[]) b4) ∧
 ((a0 : Int) = 8 →
 ∃ (I2 : Nat → List Value → World → Prop) (bp : Nat), I2 bp [.int .i64 0] b4 ∧ ∀ (bg : Nat) (ad : World) (ar : Int), I2 bg [.int .i64 ar] ad →
 (ar < (a0 : Int) →
 ∃ bi : Addr, aa = some bi ∧
 0 ≤ (ar : Int) ∧ (ar : Int) < (a0 : Int) ∧
 ∃ (bn : Int), ad.cell? (bi.add (Int.toNat ar * 1)) = some (.int .u8 bn) ∧
 ∃ (ai : Option Addr) (ak : Nat) (av : Nat), ad.cell? (a2.add 3) = some (.slice ai ak av) ∧
 (-9223372036854775808 : Int) ≤ (a1 - 1) ∧ (a1 - 1) < 9223372036854775808 ∧
 ∃ (ao : Option Addr) (am : Nat) (aw : Nat), ad.cell? (a2.add 3) = some (.slice ao am aw) ∧
 (-9223372036854775808 : Int) ≤ (a1 - 1) ∧ (a1 - 1) < 9223372036854775808 ∧
 ∃ bh : Addr, ao = some bh ∧
 0 ≤ ((a1 - 1) : Int) ∧ ((a1 - 1) : Int) < (am : Int) ∧
 ∃ (bo : Int), ad.cell? (bh.add (Int.toNat (a1 - 1) * 1)) = some (.int .u64 bo) ∧
 ∃ bf : Addr, ai = some bf ∧
 0 ≤ ((a1 - 1) : Int) ∧ ((a1 - 1) : Int) < (ak : Int) ∧
 ∀ (b2 : World), Ext no ad b2 →
 canStore b2 ((bf.add (Int.toNat (a1 - 1) * 1)).add 0) ∧
 thenW (b2.setCell ((bf.add (Int.toNat (a1 - 1) * 1)).add 0) (.int .u64 (IntKind.u64.wrap ((BitVec.ofInt (IntKind.bits .u64) (IntKind.u64.wrap (bo * 256)) ||| BitVec.ofInt (IntKind.bits .u64) (IntKind.u64.wrap bn)).toNat)))) fun b9 =>
 (-9223372036854775808 : Int) ≤ (ar + 1) ∧ (ar + 1) < 9223372036854775808 ∧
 ∃ bj, bj < bg ∧ I2 bj [.int .i64 (ar + 1)] b9) ∧
 ((a0 : Int) ≤ ar →
 (-9223372036854775808 : Int) ≤ (a1 - 1) ∧ (a1 - 1) < 9223372036854775808 ∧
 ∃ bk, bk < m7 ∧ I0 bk [.int .i64 (a1 - 1)] ad)))) ∧
 (b8 ≠ 0 →
 R (.tuple #[]) ae)) ∧
 (ba = 0 →
 R (.tuple #[]) ae)) ∧
 (a1 ≤ 0 →
 R (.tuple #[]) ae)

theorem epochs_Ring_back.up (r1 : Option Addr) {R : Value → World → Prop} {w : World} (h : epochs_Ring_back.N r1 R w) : epochs_Ring_back.M r1 R w := by
  unfold epochs_Ring_back.M
  unfold epochs_Ring_back.N at h
  obtain ⟨a2, ay, h⟩ := h
  refine elim_some ay ?_
  obtain ⟨b0, az, b1, cj, h⟩ := h
  refine ⟨b0, az, b1, cj, ?_⟩
  obtain ⟨a8, a9, h⟩ := h
  try rw [w64 a8 a9]
  obtain ⟨I0, m6, h0, h⟩ := h
  refine ⟨I0, m6, h0, fun m7 c3 ch hI => ?_⟩
  have h := h m7 c3 ch hI
  refine bif_fo (fun c9 => ?_) (fun c9 => ?_)
  ·have h := h.2 (Int.not_lt.1 (of_decide_eq_false c9))
   exact h
  have h := h.1 (of_decide_eq_true c9)
  refine elim_some ay ?_
  obtain ⟨ap, ag, af, bq, h⟩ := h
  refine ⟨ap, ag, af, bq, ?_⟩
  obtain ⟨cu, b3, h⟩ := h
  refine elim_some b3 ?_
  obtain ⟨a0, a1, h⟩ := h
  refine ⟨a0, a1, ?_⟩
  obtain ⟨c6, b6, h⟩ := h
  refine ⟨c6, b6, ?_⟩
  refine bif_fo (fun bx => ?_) (fun bx => ?_)
  ·have h := h.2 (bne_f bx)
   exact h
  have h := h.1 (bne_t bx)
  refine elim_some ay ?_
  obtain ⟨ah, ad, al, b7, h⟩ := h
  refine ⟨ah, ad, al, b7, ?_⟩
  obtain ⟨a8, a9, h⟩ := h
  try rw [w64 a8 a9]
  obtain ⟨ct, bu, h⟩ := h
  refine elim_some bu ?_
  obtain ⟨a0, a1, h⟩ := h
  refine ⟨a0, a1, ?_⟩
  obtain ⟨cn, bm, h⟩ := h
  refine ⟨cn, bm, ?_⟩
  refine bif_fo (fun bd => ?_) (fun bd => ?_)
  ·have h := h.2 (beq_f bd)
   exact h
  have h := h.1 (beq_t bd)
  unfold epochs_Ring_back.J1
  refine thenW_in fun c1 ce => ?_
  have a3 := (Ext.refl no c3).x_drew ce
  refine elim_some ay ?_
  obtain ⟨c8, b5, h⟩ := h
  refine ⟨c8, (a3).cell b5 id, ?_⟩
  refine elim_some ay ?_
  obtain ⟨aw, ar, aj, bj, h⟩ := h
  refine ⟨aw, ar, aj, (a3).cell bj id, ?_⟩
  obtain ⟨cv, be, h⟩ := h
  refine elim_some be ?_
  obtain ⟨a0, a1, h⟩ := h
  refine ⟨a0, a1, ?_⟩
  obtain ⟨cg, bo, h⟩ := h
  refine ⟨cg, (a3).cell bo id, ?_⟩
  refine elim_some ay ?_
  obtain ⟨ak, av, ax, bz, h⟩ := h
  refine ⟨ak, av, ax, (a3).cell bz id, ?_⟩
  obtain ⟨cw, bl, h⟩ := h
  refine elim_some bl ?_
  obtain ⟨a0, a1, h⟩ := h
  refine ⟨a0, a1, ?_⟩
  obtain ⟨bk, bp, bn, br, h⟩ := h
  refine ⟨bk, bp, bn, (a3).cell br id, ?_⟩
  have h := h c1 a3
  refine h.mono fun c4 cf h => ?_
  obtain ⟨a4, a7, a5, he, h⟩ := h
  refine ⟨a4, a7, a5, he, ?_⟩
  obtain ⟨bh, bt, bv, bc, bw, h⟩ := h
  refine ⟨bh, bt, bv, bc, bw, ?_⟩
  refine h.mono fun ca cl h => ?_
  obtain ⟨ab, a6, aa, an, he, h⟩ := h
  refine ⟨ab, a6, aa, an, he, ?_⟩
  refine bif_of (fun c2 => ?_) (fun c2 => ?_)
  ·have h := h.1 (bne_t c2)
   exact h
  have h := h.2 (bne_f c2)
  refine bif_of (fun b9 => ?_) (fun b9 => ?_)
  ·have h := h.1 (bne_t b9)
   exact h
  have h := h.2 (bne_f b9)
  obtain ⟨I2, co, h0, h⟩ := h
  refine ⟨I2, co, h0, fun cb b2 ci hI => ?_⟩
  have h := h cb b2 ci hI
  refine bif_fo (fun bf => ?_) (fun bf => ?_)
  ·have h := h.2 (Int.not_lt.1 (of_decide_eq_false bf))
   obtain ⟨a8, a9, h⟩ := h
   try rw [w64 a8 a9]
   obtain ⟨cp, hk, h⟩ := h
   exact ⟨cp, hk, h⟩
  have h := h.1 (of_decide_eq_true bf)
  obtain ⟨cq, c0, h⟩ := h
  refine elim_some c0 ?_
  obtain ⟨a0, a1, h⟩ := h
  refine ⟨a0, a1, ?_⟩
  obtain ⟨c7, ba, h⟩ := h
  refine ⟨c7, ba, ?_⟩
  refine thenW_in fun bi cm => ?_
  have ac := (Ext.refl no b2).x_drew cm
  refine elim_some ay ?_
  obtain ⟨ai, ae, am, bb, h⟩ := h
  refine ⟨ai, ae, am, (ac).cell bb id, ?_⟩
  obtain ⟨a8, a9, h⟩ := h
  try rw [w64 a8 a9]
  refine elim_some ay ?_
  obtain ⟨aq, ao, au, bg, h⟩ := h
  refine ⟨aq, ao, au, (ac).cell bg id, ?_⟩
  obtain ⟨a8, a9, h⟩ := h
  try rw [w64 a8 a9]
  obtain ⟨cs, bs, h⟩ := h
  refine elim_some bs ?_
  obtain ⟨a0, a1, h⟩ := h
  refine ⟨a0, a1, ?_⟩
  obtain ⟨ck, b4, h⟩ := h
  refine ⟨ck, (ac).cell b4 id, ?_⟩
  refine ⟨by decide, ?_⟩
  try rw [show (2 ^ (min (Int.toNat 8) (IntKind.bits .u64)) : Int) = 256 from rfl]
  obtain ⟨cr, b8, h⟩ := h
  refine elim_some b8 ?_
  obtain ⟨a0, a1, h⟩ := h
  refine ⟨a0, a1, ?_⟩
  have h := h bi ac
  obtain ⟨hcs, h⟩ := h
  refine ⟨hcs, thenW_in fun cc cd => ?_⟩
  replace h := thenW_out h cd
  obtain ⟨a8, a9, h⟩ := h
  try rw [w64 a8 a9]
  obtain ⟨c5, hk, h⟩ := h
  exact ⟨c5, hk, h⟩

theorem epochs_Ring_back.go (r1 : Option Addr) {R : Value → World → Prop} {w : World} (h : epochs_Ring_back.N r1 R w) : Calls Try.prog 41 #[.pointer r1] w fun e w' => ∃ v, e = .returned v ∧ R v w' := epochs_Ring_back.ok r1 (epochs_Ring_back.up r1 h)
def epochs_Ring_Learn_1.M (a2 : Int) (a7 : Option Addr) (a5 : Nat) (a4 : Nat) (a6 : Addr) (R : Value → World → Prop) (w : World) : Prop :=
 thenW (w.alloc (.cells #[.int .i64 a2, .slice a7 a5 a4] 60)) fun a9 =>
 thenW (a9.drew) fun a3 =>
 ∃ (a1 : Int), a3.cell? ((blk w.heap.size).add 0) = some (.int .i64 a1) ∧
 ∃ (x7 : Option Addr), a3.cell? a6 = some (.pointer x7) ∧
 x7.elim False fun a8 =>
 ∃ (a0 : Int), a3.cell? (a8.add 1) = some (.int .i64 a0) ∧
 R (.bool (a1 == a0)) a3

theorem epochs_Ring_Learn_1.eq (wWho1 : Int) (wB2a : Option Addr) (wB2n : Nat) (wB2c : Nat) (cap3 : Addr) (R : Value → World → Prop) (w : World) : mfunc Try.prog [] 38 [.agg #[.int .i64 wWho1, .slice wB2a wB2n wB2c], .pointer (some cap3)] R w = epochs_Ring_Learn_1.M wWho1 wB2a wB2n wB2c cap3 R w := by kernel_rfl
theorem epochs_Ring_Learn_1.ok (a0 : Int) (a4 : Option Addr) (a2 : Nat) (a1 : Nat) (a3 : Addr) {R : Value → World → Prop} {w : World} (h : epochs_Ring_Learn_1.M a0 a4 a2 a1 a3 R w) : Calls Try.prog 38 #[.agg #[.int .i64 a0, .slice a4 a2 a1], .pointer (some a3)] w fun e w' => ∃ v, e = .returned v ∧ R v w' :=
  mfunc_ok follows (H := []) (args := [.agg #[.int .i64 a0, .slice a4 a2 a1], .pointer (some a3)]) (by rw [epochs_Ring_Learn_1.eq]; exact h)

def epochs_Ring_Learn_1.N (a1 : Int) (a6 : Option Addr) (a5 : Nat) (a4 : Nat) (a2 : Addr) (R : Value → World → Prop) (w : World) : Prop :=
 ∃ (x7 : Option Addr), w.cell? a2 = some (.pointer x7) ∧
 ∃ a8 : Addr, x7 = some a8 ∧
 ∃ (a0 : Int), w.cell? (a8.add 1) = some (.int .i64 a0) ∧
 ∀ (a3 : World), Ext no w a3 →
 R (.bool (a1 == a0)) a3

theorem epochs_Ring_Learn_1.up (a0 : Int) (a5 : Option Addr) (a3 : Nat) (a1 : Nat) (a4 : Addr) {R : Value → World → Prop} {w : World} (h : epochs_Ring_Learn_1.N a0 a5 a3 a1 a4 R w) : epochs_Ring_Learn_1.M a0 a5 a3 a1 a4 R w := by
  unfold epochs_Ring_Learn_1.M
  unfold epochs_Ring_Learn_1.N at h
  refine thenW_in fun ae e4 => ?_
  have a6 := Blk.of_new e4
  have af := ((Ext.refl no w)).size
  have ac := (Ext.refl no w).x_alloc e4
  refine thenW_in fun a9 e5 => ?_
  have a7 := ac.x_drew e5
  have a6 := a6.x_drew e5
  refine ⟨a0, a6.celli 0 rfl rfl, ?_⟩
  obtain ⟨x7, ad, h⟩ := h
  refine ⟨x7, (a7).cell ad id, ?_⟩
  obtain ⟨a8, ab, h⟩ := h
  refine elim_some ab ?_
  obtain ⟨a2, aa, h⟩ := h
  refine ⟨a2, (a7).cell aa id, ?_⟩
  have h := h a9 a7
  exact h

theorem epochs_Ring_Learn_1.go (a0 : Int) (a4 : Option Addr) (a2 : Nat) (a1 : Nat) (a3 : Addr) {R : Value → World → Prop} {w : World} (h : epochs_Ring_Learn_1.N a0 a4 a2 a1 a3 R w) : Calls Try.prog 38 #[.agg #[.int .i64 a0, .slice a4 a2 a1], .pointer (some a3)] w fun e w' => ∃ v, e = .returned v ∧ R v w' := epochs_Ring_Learn_1.ok a0 a4 a2 a1 a3 (epochs_Ring_Learn_1.up a0 a4 a2 a1 a3 h)
theorem epochs_Ring_Learn_1.run (a0 : Int) (a4 : Option Addr) (a2 : Nat) (a1 : Nat) (a3 : Addr) {V : Value} {Q : World → Prop} {w : World} (h : epochs_Ring_Learn_1.N a0 a4 a2 a1 a3 (fun v w' => v = V ∧ Q w') w) : Calls Try.prog 38 #[.agg #[.int .i64 a0, .slice a4 a2 a1], .pointer (some a3)] w (Ret V Q) := (epochs_Ring_Learn_1.go a0 a4 a2 a1 a3 h).mono fun e w' ⟨v, he, hv, hq⟩ => ⟨by rw [he, hv], hq⟩

def slices_IndexFunc_members_Wrap_members_Wrap.M (ag : Option Addr) (ae : Nat) (ah : Nat) (a9 : Nat) (ad : Array Value) (af : Array Value) (R : Value → World → Prop) (w : World) : Prop :=
 ∃ (I0 : Nat → List Value → World → Prop) (m4 : Nat), I0 m4 [.int .i64 0] w ∧ ∀ (m5 : Nat) (a5 : World) (t3 : Int), I0 m5 [.int .i64 t3] a5 →
 bif decide (t3 < (ae : Int)) then (
 ag.elim False fun a7 =>
 0 ≤ (t3 : Int) ∧ (t3 : Int) < (ae : Int) ∧
 ∃ (a0 : Int) (a2 : Option Addr) (a3 : Nat) (a4 : Nat), cellsAt a5 (a7.add (Int.toNat t3 * 2)) [.int .i64 a0, .slice a2 a3 a4] 0 ∧
 bif enters Try.prog a9 then Calls Try.prog a9 (ad.toList ++ ([.agg #[.int .i64 a0, .slice a2 a3 a4]] : List Value) ++ af.toList).toArray a5 (fun aa a8 => ∃ (a6 : Bool), aa = .returned (.bool a6) ∧
 bif a6 then (
 R (.int .i64 t3) a8) else (
 ∃ ab, ab < m5 ∧ I0 ab [.int .i64 (IntKind.i64.wrap (t3 + 1))] a8)) else (∃ (a6 : Bool) (a1 : World), (externCall a9 (ad.toList ++ ([.agg #[.int .i64 a0, .slice a2 a3 a4]] : List Value) ++ af.toList).toArray).run Try.prog a5 = .ok (.bool a6) a1 ∧
 bif a6 then (
 R (.int .i64 t3) a1) else (
 ∃ ac, ac < m5 ∧ I0 ac [.int .i64 (IntKind.i64.wrap (t3 + 1))] a1))) else (
 R (.int .i64 (-1)) a5)

theorem slices_IndexFunc_members_Wrap_members_Wrap.eq (s1a : Option Addr) (s1n : Nat) (s1c : Nat) (f2k : Nat) (f2f : Array Value) (f2g : Array Value) (R : Value → World → Prop) (w : World) : mfunc Try.prog [(0, [0, 1, 7], [(8, (.one (.int .i64)))])] 39 [.slice s1a s1n s1c, .func (.func f2k) f2f f2g] R w = slices_IndexFunc_members_Wrap_members_Wrap.M s1a s1n s1c f2k f2f f2g R w := by kernel_rfl
theorem slices_IndexFunc_members_Wrap_members_Wrap.ok (a0 : Option Addr) (a2 : Nat) (a5 : Nat) (a3 : Nat) (a1 : Array Value) (a4 : Array Value) {R : Value → World → Prop} {w : World} (h : slices_IndexFunc_members_Wrap_members_Wrap.M a0 a2 a5 a3 a1 a4 R w) : Calls Try.prog 39 #[.slice a0 a2 a5, .func (.func a3) a1 a4] w fun e w' => ∃ v, e = .returned v ∧ R v w' :=
  mfunc_ok follows (H := [(0, [0, 1, 7], [(8, (.one (.int .i64)))])]) (args := [.slice a0 a2 a5, .func (.func a3) a1 a4]) (by rw [slices_IndexFunc_members_Wrap_members_Wrap.eq]; exact h)

def slices_IndexFunc_members_Wrap_members_Wrap.N (ac : Option Addr) (a6 : Nat) (af : Nat) (aa : Nat) (ad : Array Value) (ae : Array Value) (R : Value → World → Prop) (w : World) : Prop :=
 ∃ (I0 : Nat → List Value → World → Prop) (m4 : Nat), I0 m4 [.int .i64 0] w ∧ ∀ (m5 : Nat) (a5 : World) (t3 : Int), I0 m5 [.int .i64 t3] a5 →
 (t3 < (a6 : Int) →
 ∃ a8 : Addr, ac = some a8 ∧
 0 ≤ (t3 : Int) ∧ (t3 : Int) < (a6 : Int) ∧
 ∃ (a0 : Int) (a3 : Option Addr) (a1 : Nat) (a2 : Nat), cellsAt a5 (a8.add (Int.toNat t3 * 2)) [.int .i64 a0, .slice a3 a1 a2] 0 ∧
 enters Try.prog aa = true ∧ Calls Try.prog aa (ad.toList ++ ([.agg #[.int .i64 a0, .slice a3 a1 a2]] : List Value) ++ ae.toList).toArray a5 (fun a7 a4 => ∃ (a9 : Bool), a7 = .returned (.bool a9) ∧
 (a9 = true →
 R (.int .i64 t3) a4) ∧
 (a9 = false →
 (-9223372036854775808 : Int) ≤ (t3 + 1) ∧ (t3 + 1) < 9223372036854775808 ∧
 ∃ ab, ab < m5 ∧ I0 ab [.int .i64 (t3 + 1)] a4))) ∧
 ((a6 : Int) ≤ t3 →
 R (.int .i64 (-1)) a5)

theorem slices_IndexFunc_members_Wrap_members_Wrap.up (a6 : Option Addr) (a5 : Nat) (aa : Nat) (a7 : Nat) (ab : Array Value) (a9 : Array Value) {R : Value → World → Prop} {w : World} (h : slices_IndexFunc_members_Wrap_members_Wrap.N a6 a5 aa a7 ab a9 R w) : slices_IndexFunc_members_Wrap_members_Wrap.M a6 a5 aa a7 ab a9 R w := by
  unfold slices_IndexFunc_members_Wrap_members_Wrap.M
  unfold slices_IndexFunc_members_Wrap_members_Wrap.N at h
  obtain ⟨I0, m4, h0, h⟩ := h
  refine ⟨I0, m4, h0, fun m5 ae t3 hI => ?_⟩
  have h := h m5 ae t3 hI
  refine bif_fo (fun c7 => ?_) (fun c7 => ?_)
  ·have h := h.2 (Int.not_lt.1 (of_decide_eq_false c7))
   exact h
  have h := h.1 (of_decide_eq_true c7)
  obtain ⟨a8, al, h⟩ := h
  refine elim_some al ?_
  obtain ⟨ac, aj, h⟩ := h
  refine ⟨ac, aj, ?_⟩
  obtain ⟨a0, a3, a1, a2, ai, h⟩ := h
  refine ⟨a0, a3, a1, a2, ai, ?_⟩
  obtain ⟨hen, h⟩ := h
  refine bif_tt hen ?_
  refine h.mono fun am ag h => ?_
  obtain ⟨ak, he, h⟩ := h
  refine ⟨ak, he, ?_⟩
  refine bif_of (fun a4 => ?_) (fun a4 => ?_)
  ·have h := h.1 a4
   exact h
  have h := h.2 a4
  obtain ⟨af, ah, h⟩ := h
  try rw [w64 af ah]
  obtain ⟨ad, hk, h⟩ := h
  exact ⟨ad, hk, h⟩

theorem slices_IndexFunc_members_Wrap_members_Wrap.go (a0 : Option Addr) (a2 : Nat) (a5 : Nat) (a3 : Nat) (a1 : Array Value) (a4 : Array Value) {R : Value → World → Prop} {w : World} (h : slices_IndexFunc_members_Wrap_members_Wrap.N a0 a2 a5 a3 a1 a4 R w) : Calls Try.prog 39 #[.slice a0 a2 a5, .func (.func a3) a1 a4] w fun e w' => ∃ v, e = .returned v ∧ R v w' := slices_IndexFunc_members_Wrap_members_Wrap.ok a0 a2 a5 a3 a1 a4 (slices_IndexFunc_members_Wrap_members_Wrap.up a0 a2 a5 a3 a1 a4 h)
theorem slices_IndexFunc_members_Wrap_members_Wrap.run (a0 : Option Addr) (a2 : Nat) (a5 : Nat) (a3 : Nat) (a1 : Array Value) (a4 : Array Value) {V : Value} {Q : World → Prop} {w : World} (h : slices_IndexFunc_members_Wrap_members_Wrap.N a0 a2 a5 a3 a1 a4 (fun v w' => v = V ∧ Q w') w) : Calls Try.prog 39 #[.slice a0 a2 a5, .func (.func a3) a1 a4] w (Ret V Q) := (slices_IndexFunc_members_Wrap_members_Wrap.go a0 a2 a5 a3 a1 a4 h).mono fun e w' ⟨v, he, hv, hq⟩ => ⟨by rw [he, hv], hq⟩

abbrev epochs_Ring_Learn.J1 (au : Int) (ar : Addr) (a7 : Addr) (R : Value → World → Prop) (aq : World) : Prop :=
 thenW (aq.drew) fun a6 =>
 ∃ (ae : Option Addr), a6.cell? a7 = some (.pointer ae) ∧
 ∃ (af : Option Addr), a6.cell? a7 = some (.pointer af) ∧
 af.elim False fun ak =>
 ∃ (a2 : Option Addr) (a1 : Nat) (a0 : Nat), a6.cell? (ak.add 4) = some (.slice a2 a1 a0) ∧
 ∃ (a9 : Option Addr) (aa : Nat) (ad : Nat), a6.cell? (ar.add 5) = some (.slice a9 aa ad) ∧
 Calls Try.prog 40 #[.slice a9 aa ad] a6 fun an a8 => ∃ (a5 : Option Addr) (a3 : Nat) (a4 : Nat), an = .returned (.slice a5 a3 a4) ∧
 a8.cell? (ak.add 4) = some (.slice a2 a1 a0) ∧
 a8.cell? a7 = some (.pointer af) ∧
 a8.cell? a7 = some (.pointer ae) ∧
 thenW (a8.alloc (.cells #[.slice a5 a3 a4] 29)) fun ac =>
 ac.cell? (ak.add 4) = some (.slice a2 a1 a0) ∧
 ac.cell? a7 = some (.pointer af) ∧
 ac.cell? a7 = some (.pointer ae) ∧
 ∃ (ah : Option Addr) (ai : Nat) (aj : Nat) (ab : World), (Builtin.append_ #[83, 83] 83 #[.slice a2 a1 a0, .slice (some (blk a8.heap.size)) 1 1]).run Try.prog ac = .ok (.slice ah ai aj) ab ∧
 ab.cell? a7 = some (.pointer ae) ∧
 ae.elim False fun am =>
 canStore ab ((am.add 4).add 0) ∧
 thenW (ab.setCell ((am.add 4).add 0) (.slice ah ai aj)) fun ag =>
 ∃ (ap : Option Addr), ag.cell? a7 = some (.pointer ap) ∧
 Calls Try.prog 41 #[.pointer ap] ag fun al ao => al = .returned (.tuple #[]) ∧
 R (.int .i64 au) ao

abbrev epochs_Ring_Learn.J2 (ai : Int) (ah : Int) (ag : Addr) (a6 : Addr) (R : Value → World → Prop) (ad : World) : Prop :=
 thenW (ad.drew) fun a3 =>
 ∃ (a7 : Option Addr), a3.cell? a6 = some (.pointer a7) ∧
 ∃ (ab : Option Addr), a3.cell? a6 = some (.pointer ab) ∧
 ab.elim False fun ae =>
 ∃ (a2 : Option Addr) (a1 : Nat) (a0 : Nat), a3.cell? (ae.add 3) = some (.slice a2 a1 a0) ∧
 thenW (a3.alloc (.cells #[.int .u64 ah] 27)) fun a4 =>
 a4.cell? (ae.add 3) = some (.slice a2 a1 a0) ∧
 a4.cell? a6 = some (.pointer ab) ∧
 a4.cell? a6 = some (.pointer a7) ∧
 ∃ (a8 : Option Addr) (a9 : Nat) (aa : Nat) (a5 : World), (Builtin.append_ #[22, 22] 22 #[.slice a2 a1 a0, .slice (some (blk a3.heap.size)) 1 1]).run Try.prog a4 = .ok (.slice a8 a9 aa) a5 ∧
 a5.cell? a6 = some (.pointer a7) ∧
 a7.elim False fun af =>
 canStore a5 ((af.add 3).add 0) ∧
 thenW (a5.setCell ((af.add 3).add 0) (.slice a8 a9 aa)) fun ac =>
 epochs_Ring_Learn.J1 ai ag a6 R ac

abbrev epochs_Ring_Learn.J3 (ah : Addr) (ad : Addr) (R : Value → World → Prop) (ae : World) : Prop :=
 ∃ (a7 : Option Addr) (a3 : Nat) (a4 : Nat), ae.cell? (ah.add 4) = some (.slice a7 a3 a4) ∧
 Calls Try.prog 39 #[.slice a7 a3 a4, .func (.func 38) #[] #[.pointer (some ad)]] ae fun aj ag => ∃ (a0 : Int), aj = .returned (.int .i64 a0) ∧
 bif decide (a0 ≥ 0) then (
 thenW (ag.drew) fun a9 =>
 ∃ (an : Option Addr), a9.cell? ad = some (.pointer an) ∧
 an.elim False fun ap =>
 ∃ (am : Option Addr), a9.cell? (ap.add 0) = some (.pointer am) ∧
 ∃ (al : Option Addr), a9.cell? ad = some (.pointer al) ∧
 al.elim False fun ao =>
 ∃ (a8 : Int), a9.cell? (ao.add 2) = some (.int .u64 a8) ∧
 ∃ (a6 : Option Addr) (a1 : Nat) (aa : Nat), a9.cell? (ah.add 4) = some (.slice a6 a1 aa) ∧
 a6.elim False fun aq =>
 0 ≤ (a0 : Int) ∧ (a0 : Int) < (a1 : Int) ∧
 ∃ (ab : Option Addr) (af : Nat) (ac : Nat), a9.cell? ((aq.add (Int.toNat a0 * 2)).add 1) = some (.slice ab af ac) ∧
 Calls Try.prog 12 #[.pointer am, .int .u64 a8, .slice ab af ac] a9 fun ak ai => ∃ (a2 : Int) (a5 : Int), ak = .returned (.tuple #[.int .u64 a2, .int .i64 a5]) ∧
 epochs_Ring_Learn.J2 a5 a2 ah ad R ai) else (
 epochs_Ring_Learn.J2 11 0 ah ad R ag)

def epochs_Ring_Learn.M (r1 : Option Addr) (ao : Int) (aq : Int) (ah : Int) (ak : Int) (ad : Option Addr) (ae : Nat) (af : Nat) (al : Option Addr) (am : Nat) (an : Nat) (R : Value → World → Prop) (w : World) : Prop :=
 thenW (w.alloc (.cells #[.pointer r1] 34)) fun ar =>
 thenW (ar.alloc (.cells #[.int .i64 ao, .int .i64 aq, .int .u64 ah, .int .i64 ak, .slice ad ae af, .slice al am an] 52)) fun ap =>
 ∃ (aw : Option Addr), ap.cell? (blk w.heap.size) = some (.pointer aw) ∧
 bif Option.isNone aw then (
 R (.int .i64 23) ap) else (
 ∃ (ab : Int), ap.cell? ((blk ar.heap.size).add 0) = some (.int .i64 ab) ∧
 bif ab != 3 then (
 R (.int .i64 1) ap) else (
 ∃ (a5 : Int) (ac : Int) (a1 : Int) (a4 : Int) (a3 : Option Addr) (a2 : Nat) (a0 : Nat) (a7 : Option Addr) (a8 : Nat) (a9 : Nat), cellsAt ap (blk ar.heap.size) [.int .i64 a5, .int .i64 ac, .int .u64 a1, .int .i64 a4, .slice a3 a2 a0, .slice a7 a8 a9] 0 ∧
 Calls Try.prog 34 #[.agg #[.int .i64 a5, .int .i64 ac, .int .u64 a1, .int .i64 a4, .slice a3 a2 a0, .slice a7 a8 a9]] ap fun au ag => ∃ (aa : Bool), au = .returned (.bool aa) ∧
 bif !aa then (
 R (.int .i64 1) ag) else (
 ∃ (av : Option Addr), ag.cell? (blk w.heap.size) = some (.pointer av) ∧
 av.elim False fun ax =>
 ∃ (ai : Option Addr) (a6 : Nat) (aj : Nat), ag.cell? (ax.add 3) = some (.slice ai a6 aj) ∧
 bif decide ((a6 : Int) ≥ 20) then (
 R (.int .i64 3) ag) else (
 epochs_Ring_Learn.J3 (blk ar.heap.size) (blk w.heap.size) R ag))))

theorem epochs_Ring_Learn.eq (r1 : Option Addr) (cKind2 : Int) (cWho3 : Int) (cPublic4 : Int) (cLimit5 : Int) (cWraps6a : Option Addr) (cWraps6n : Nat) (cWraps6c : Nat) (cOld7a : Option Addr) (cOld7n : Nat) (cOld7c : Nat) (R : Value → World → Prop) (w : World) : mfunc Try.prog [] 11 [.pointer r1, .agg #[.int .i64 cKind2, .int .i64 cWho3, .int .u64 cPublic4, .int .i64 cLimit5, .slice cWraps6a cWraps6n cWraps6c, .slice cOld7a cOld7n cOld7c]] R w = epochs_Ring_Learn.M r1 cKind2 cWho3 cPublic4 cLimit5 cWraps6a cWraps6n cWraps6c cOld7a cOld7n cOld7c R w := by kernel_rfl
theorem epochs_Ring_Learn.ok (r1 : Option Addr) (a6 : Int) (a9 : Int) (a1 : Int) (a4 : Int) (a3 : Option Addr) (a2 : Nat) (a0 : Nat) (a5 : Option Addr) (a7 : Nat) (a8 : Nat) {R : Value → World → Prop} {w : World} (h : epochs_Ring_Learn.M r1 a6 a9 a1 a4 a3 a2 a0 a5 a7 a8 R w) : Calls Try.prog 11 #[.pointer r1, .agg #[.int .i64 a6, .int .i64 a9, .int .u64 a1, .int .i64 a4, .slice a3 a2 a0, .slice a5 a7 a8]] w fun e w' => ∃ v, e = .returned v ∧ R v w' :=
  mfunc_ok follows (H := []) (args := [.pointer r1, .agg #[.int .i64 a6, .int .i64 a9, .int .u64 a1, .int .i64 a4, .slice a3 a2 a0, .slice a5 a7 a8]]) (by rw [epochs_Ring_Learn.eq]; exact h)

def epochs_Ring_Learn.N (r1 : Option Addr) (b4 : Int) (cc : Int) (ba : Int) (bk : Int) (aa : Option Addr) (ac : Nat) (au : Nat) (b2 : Option Addr) (b0 : Nat) (b3 : Nat) (R : Value → World → Prop) (w : World) : Prop :=
 ∀ (bu : World) (q9 : Nat), Ext no w bu → Blk bu q9 34 [.pointer r1] → w.heap.size ≤ q9 → q9 < bu.heap.size →
 ∃ (ct : Option Addr), bu.cell? (blk q9) = some (.pointer ct) ∧
 (ct = none →
 ∀ (af : World), Ext no bu af →
 R (.int .i64 23) af) ∧
 (ct ≠ none →
 (b4 ≠ 3 →
 ∀ (af : World), Ext no bu af →
 R (.int .i64 1) af) ∧
 (b4 = 3 →
 ∀ (af : World) (bt : Nat), Ext no bu af → Priv bu af [bt] →
 Calls Try.prog 34 #[.agg #[.int .i64 b4, .int .i64 cc, .int .u64 ba, .int .i64 bk, .slice aa ac au, .slice b2 b0 b3]] af fun cq b5 => ∃ (an : Bool), cq = .returned (.bool an) ∧
 Keep [bt] af b5 ∧
 (an = false →
 R (.int .i64 1) b5) ∧
 (an = true →
 ∃ (d3 : Option Addr), b5.cell? (blk q9) = some (.pointer d3) ∧
 ∃ d4 : Addr, d3 = some d4 ∧
 ∃ (bl : Option Addr) (ak : Nat) (bh : Nat), b5.cell? (d4.add 3) = some (.slice bl ak bh) ∧
 ((ak : Int) ≥ 20 →
 R (.int .i64 3) b5) ∧
 ((ak : Int) < 20 →
 Calls Try.prog 39 #[.slice aa ac au, .func (.func 38) #[] #[.pointer (some (blk q9))]] b5 fun cz a5 => ∃ (a0 : Int), cz = .returned (.int .i64 a0) ∧
 Keep [bt] b5 a5 ∧
 (a0 ≥ 0 →
 ∃ (d8 : Option Addr), a5.cell? (blk q9) = some (.pointer d8) ∧
 ∃ d2 : Addr, d8 = some d2 ∧
 ∃ (d1 : Option Addr), a5.cell? (d2.add 0) = some (.pointer d1) ∧
 ∃ (d0 : Option Addr), a5.cell? (blk q9) = some (.pointer d0) ∧
 ∃ d5 : Addr, d0 = some d5 ∧
 ∃ (ax : Int), a5.cell? (d5.add 2) = some (.int .u64 ax) ∧
 ∃ d6 : Addr, aa = some d6 ∧
 0 ≤ (a0 : Int) ∧ (a0 : Int) < (ac : Int) ∧
 ∃ (c6 : Option Addr) (c4 : Nat) (ca : Nat), a5.cell? ((d6.add (Int.toNat a0 * 2)).add 1) = some (.slice c6 c4 ca) ∧
 ∀ (bz : World), Ext no a5 bz →
 Calls Try.prog 12 #[.pointer d1, .int .u64 ax, .slice c6 c4 ca] bz fun cv b8 => ∃ (ar : Int) (ay : Int), cv = .returned (.tuple #[.int .u64 ar, .int .i64 ay]) ∧
 Keep [bt] bz b8 ∧
 ∃ (cl : Option Addr), b8.cell? (blk q9) = some (.pointer cl) ∧
 ∃ (cx : Option Addr), b8.cell? (blk q9) = some (.pointer cx) ∧
 ∃ cy : Addr, cx = some cy ∧
 ∃ (al : Option Addr) (am : Nat) (aj : Nat), b8.cell? (cy.add 3) = some (.slice al am aj) ∧
 ∀ (az : World) (cn : Nat), Ext no b8 az → Blk az cn 27 [.int .u64 ar] → b8.heap.size ≤ cn → cn < az.heap.size →
 az.cell? (cy.add 3) = some (.slice al am aj) ∧
 az.cell? (blk q9) = some (.pointer cx) ∧
 az.cell? (blk q9) = some (.pointer cl) ∧
 ∃ (c3 : Option Addr) (c2 : Nat) (cd : Nat) (bb : World), (Builtin.append_ #[22, 22] 22 #[.slice al am aj, .slice (some (blk cn)) 1 1]).run Try.prog az = .ok (.slice c3 c2 cd) bb ∧
 Keep [bt] az bb ∧
 bb.cell? (blk q9) = some (.pointer cl) ∧
 ∃ cm : Addr, cl = some cm ∧
 canStore bb ((cm.add 3).add 0) ∧
 (∀ p ∈ [bt], p ≠ Addr.block (cm.add 3)) ∧
 thenW (bb.setCell ((cm.add 3).add 0) (.slice c3 c2 cd)) fun bi =>
 ∃ (ch : Option Addr), bi.cell? (blk q9) = some (.pointer ch) ∧
 ∃ (cp : Option Addr), bi.cell? (blk q9) = some (.pointer cp) ∧
 ∃ co : Addr, cp = some co ∧
 ∃ (a6 : Option Addr) (a7 : Nat) (a8 : Nat), bi.cell? (co.add 4) = some (.slice a6 a7 a8) ∧
 ∀ (cg : World), Ext no bi cg →
 Calls Try.prog 40 #[.slice b2 b0 b3] cg fun cw bc => ∃ (aq : Option Addr) (av : Nat) (aw : Nat), cw = .returned (.slice aq av aw) ∧
 bc.cell? (co.add 4) = some (.slice a6 a7 a8) ∧
 bc.cell? (blk q9) = some (.pointer cp) ∧
 bc.cell? (blk q9) = some (.pointer ch) ∧
 ∀ (b1 : World) (cj : Nat), Ext no bc b1 → Blk b1 cj 29 [.slice aq av aw] → bc.heap.size ≤ cj → cj < b1.heap.size →
 b1.cell? (co.add 4) = some (.slice a6 a7 a8) ∧
 b1.cell? (blk q9) = some (.pointer cp) ∧
 b1.cell? (blk q9) = some (.pointer ch) ∧
 ∃ (ce : Option Addr) (c7 : Nat) (c5 : Nat) (bg : World), (Builtin.append_ #[83, 83] 83 #[.slice a6 a7 a8, .slice (some (blk cj)) 1 1]).run Try.prog b1 = .ok (.slice ce c7 c5) bg ∧
 bg.cell? (blk q9) = some (.pointer ch) ∧
 ∃ cr : Addr, ch = some cr ∧
 canStore bg ((cr.add 4).add 0) ∧
 thenW (bg.setCell ((cr.add 4).add 0) (.slice ce c7 c5)) fun ci =>
 ∃ (d7 : Option Addr), ci.cell? (blk q9) = some (.pointer d7) ∧
 Calls Try.prog 41 #[.pointer d7] ci fun cs cu => cs = .returned (.tuple #[]) ∧
 R (.int .i64 ay) cu) ∧
 (a0 < 0 →
 ∃ (ck : Option Addr), a5.cell? (blk q9) = some (.pointer ck) ∧
 ∃ (c0 : Option Addr), a5.cell? (blk q9) = some (.pointer c0) ∧
 ∃ bx : Addr, c0 = some bx ∧
 ∃ (a9 : Option Addr) (ab : Nat) (ae : Nat), a5.cell? (bx.add 3) = some (.slice a9 ab ae) ∧
 ∀ (a4 : World) (bf : Nat), Ext no a5 a4 → Blk a4 bf 27 [.int .u64 0] → a5.heap.size ≤ bf → bf < a4.heap.size →
 a4.cell? (bx.add 3) = some (.slice a9 ab ae) ∧
 a4.cell? (blk q9) = some (.pointer c0) ∧
 a4.cell? (blk q9) = some (.pointer ck) ∧
 ∃ (br : Option Addr) (bv : Nat) (bn : Nat) (ap : World), (Builtin.append_ #[22, 22] 22 #[.slice a9 ab ae, .slice (some (blk bf)) 1 1]).run Try.prog a4 = .ok (.slice br bv bn) ap ∧
 Keep [bt] a4 ap ∧
 ap.cell? (blk q9) = some (.pointer ck) ∧
 ∃ bj : Addr, ck = some bj ∧
 canStore ap ((bj.add 3).add 0) ∧
 (∀ p ∈ [bt], p ≠ Addr.block (bj.add 3)) ∧
 thenW (ap.setCell ((bj.add 3).add 0) (.slice br bv bn)) fun b7 =>
 ∃ (b9 : Option Addr), b7.cell? (blk q9) = some (.pointer b9) ∧
 ∃ (bd : Option Addr), b7.cell? (blk q9) = some (.pointer bd) ∧
 ∃ bm : Addr, bd = some bm ∧
 ∃ (a1 : Option Addr) (a2 : Nat) (a3 : Nat), b7.cell? (bm.add 4) = some (.slice a1 a2 a3) ∧
 ∀ (bp : World), Ext no b7 bp →
 Calls Try.prog 40 #[.slice b2 b0 b3] bp fun cf ao => ∃ (ah : Option Addr) (ag : Nat) (ai : Nat), cf = .returned (.slice ah ag ai) ∧
 ao.cell? (bm.add 4) = some (.slice a1 a2 a3) ∧
 ao.cell? (blk q9) = some (.pointer bd) ∧
 ao.cell? (blk q9) = some (.pointer b9) ∧
 ∀ (ad : World) (be : Nat), Ext no ao ad → Blk ad be 29 [.slice ah ag ai] → ao.heap.size ≤ be → be < ad.heap.size →
 ad.cell? (bm.add 4) = some (.slice a1 a2 a3) ∧
 ad.cell? (blk q9) = some (.pointer bd) ∧
 ad.cell? (blk q9) = some (.pointer b9) ∧
 ∃ (bw : Option Addr) (bo : Nat) (bq : Nat) (b6 : World), (Builtin.append_ #[83, 83] 83 #[.slice a1 a2 a3, .slice (some (blk be)) 1 1]).run Try.prog ad = .ok (.slice bw bo bq) b6 ∧
 b6.cell? (blk q9) = some (.pointer b9) ∧
 ∃ c1 : Addr, b9 = some c1 ∧
 canStore b6 ((c1.add 4).add 0) ∧
 thenW (b6.setCell ((c1.add 4).add 0) (.slice bw bo bq)) fun bs =>
 ∃ (cb : Option Addr), bs.cell? (blk q9) = some (.pointer cb) ∧
 Calls Try.prog 41 #[.pointer cb] bs fun c8 c9 => c8 = .returned (.tuple #[]) ∧
 R (.int .i64 11) c9)))))

theorem epochs_Ring_Learn.up (r1 : Option Addr) (a9 : Int) (ar : Int) (a5 : Int) (a8 : Int) (a1 : Option Addr) (a3 : Nat) (a2 : Nat) (a6 : Option Addr) (a4 : Nat) (a7 : Nat) {R : Value → World → Prop} {w : World} (h : epochs_Ring_Learn.N r1 a9 ar a5 a8 a1 a3 a2 a6 a4 a7 R w) : epochs_Ring_Learn.M r1 a9 ar a5 a8 a1 a3 a2 a6 a4 a7 R w := by
  unfold epochs_Ring_Learn.M
  unfold epochs_Ring_Learn.N at h
  refine thenW_in fun cf e8 => ?_
  have h := h cf w.heap.size ((Ext.refl no w).x_alloc e8) (Blk.of_new e8) ((Ext.refl no w)).size (size_lt_alloc e8)
  refine thenW_in fun bb eh => ?_
  have a0 := Blk.of_new eh
  have f2 := ((Ext.refl no cf)).size
  have b0 := (Ext.refl no cf).x_alloc eh
  obtain ⟨eu, cm, h⟩ := h
  refine ⟨eu, (b0).cell cm id, ?_⟩
  refine bif_of (fun d2 => ?_) (fun d2 => ?_)
  ·have h := h.1 (isNone_t d2)
   have h := h bb b0
   exact h
  have h := h.2 (isNone_f d2)
  refine ⟨a9, a0.celli 0 rfl rfl, ?_⟩
  refine bif_of (fun dz => ?_) (fun dz => ?_)
  ·have h := h.1 (bne_t dz)
   have h := h bb b0
   exact h
  have h := h.2 (bne_f dz)
  refine ⟨a9, ar, a5, a8, a1, a3, a2, a6, a4, a7, ⟨a0.celli 0 rfl rfl, a0.celli 1 rfl rfl, a0.celli 2 rfl rfl, a0.celli 3 rfl rfl, a0.celli 4 rfl rfl, a0.celli 5 rfl rfl, trivial⟩, ?_⟩
  have h := h bb (cf.heap.size) b0 (Priv.cons f2 a0.lt Priv.nil)
  refine h.mono fun ep fa h => ?_
  obtain ⟨b4, he, hk, h⟩ := h
  refine ⟨b4, he, ?_⟩
  have a0 := hk.blk a0 (by simp)
  refine bif_of (fun d6 => ?_) (fun d6 => ?_)
  ·have h := h.1 (not_t d6)
   exact h
  have h := h.2 (not_f d6)
  obtain ⟨f0, dl, h⟩ := h
  refine ⟨f0, dl, ?_⟩
  obtain ⟨fg, ck, h⟩ := h
  refine elim_some ck ?_
  obtain ⟨b5, b3, az, de, h⟩ := h
  refine ⟨b5, b3, az, de, ?_⟩
  refine bif_of (fun e9 => ?_) (fun e9 => ?_)
  ·have h := h.1 (of_decide_eq_true e9)
   exact h
  have h := h.2 (Int.not_le.1 (of_decide_eq_false e9))
  unfold epochs_Ring_Learn.J3
  refine ⟨a1, a3, a2, a0.celli 4 rfl rfl, ?_⟩
  refine h.mono fun f6 bl h => ?_
  obtain ⟨aa, he, hk, h⟩ := h
  refine ⟨aa, he, ?_⟩
  have a0 := hk.blk a0 (by simp)
  refine bif_fo (fun du => ?_) (fun du => ?_)
  ·have h := h.2 (Int.not_le.1 (of_decide_eq_false du))
   unfold epochs_Ring_Learn.J2
   refine thenW_in fun dy el => ?_
   have ag := (Ext.refl no bl).x_drew el
   have a0 := a0.x_drew el
   obtain ⟨es, dc, h⟩ := h
   refine ⟨es, (ag).cell dc id, ?_⟩
   obtain ⟨dw, dn, h⟩ := h
   refine ⟨dw, (ag).cell dn id, ?_⟩
   obtain ⟨er, bp, h⟩ := h
   refine elim_some bp ?_
   obtain ⟨aj, al, aw, cb, h⟩ := h
   refine ⟨aj, al, aw, (ag).cell cb id, ?_⟩
   refine thenW_in fun cc b2 => ?_
   have a0 := a0.x_alloc b2
   have h := h cc dy.heap.size (ag.x_alloc b2) (Blk.of_new b2) (ag).size (size_lt_alloc b2)
   obtain ⟨bg, bo, cd, h⟩ := h
   refine ⟨bg, bo, cd, ?_⟩
   obtain ⟨bs, c7, bf, bh, hr, hk, h⟩ := h
   refine ⟨bs, c7, bf, bh, hr, ?_⟩
   have a0 := hk.blk a0 (by simp)
   obtain ⟨bq, h⟩ := h
   refine ⟨bq, ?_⟩
   obtain ⟨ex, bj, h⟩ := h
   refine elim_some bj ?_
   obtain ⟨hcs, hof, h⟩ := h
   refine ⟨hcs, thenW_in fun c5 br => ?_⟩
   replace h := thenW_out h br
   have a0 := a0.off (by rw [block_add]; exact hof _ (by simp)) br
   unfold epochs_Ring_Learn.J1
   refine thenW_in fun bm bw => ?_
   have ab := (Ext.refl no c5).x_drew bw
   have a0 := a0.x_drew bw
   obtain ⟨cg, bz, h⟩ := h
   refine ⟨cg, (ab).cell bz id, ?_⟩
   obtain ⟨ch, c1, h⟩ := h
   refine ⟨ch, (ab).cell c1 id, ?_⟩
   obtain ⟨f8, c8, h⟩ := h
   refine elim_some c8 ?_
   obtain ⟨ah, ak, av, bv, h⟩ := h
   refine ⟨ah, ak, av, (ab).cell bv id, ?_⟩
   refine ⟨a6, a4, a7, a0.celli 5 rfl rfl, ?_⟩
   have h := h bm ab
   refine h.mono fun ej ai h => ?_
   obtain ⟨ae, ac, af, he, h⟩ := h
   refine ⟨ae, ac, af, he, ?_⟩
   obtain ⟨c3, c6, be, h⟩ := h
   refine ⟨c3, c6, be, ?_⟩
   refine thenW_in fun c0 bc => ?_
   have h := h c0 ai.heap.size ((Ext.refl no ai).x_alloc bc) (Blk.of_new bc) ((Ext.refl no ai)).size (size_lt_alloc bc)
   obtain ⟨c2, bu, bx, h⟩ := h
   refine ⟨c2, bu, bx, ?_⟩
   obtain ⟨c9, bk, bn, c4, hr, h⟩ := h
   refine ⟨c9, bk, bn, c4, hr, ?_⟩
   obtain ⟨ca, h⟩ := h
   refine ⟨ca, ?_⟩
   obtain ⟨fb, bt, h⟩ := h
   refine elim_some bt ?_
   obtain ⟨hcs, h⟩ := h
   refine ⟨hcs, thenW_in fun ei d9 => ?_⟩
   replace h := thenW_out h d9
   obtain ⟨di, bi, h⟩ := h
   refine ⟨di, bi, ?_⟩
   refine h.mono fun ee ef h => ?_
   obtain ⟨he, h⟩ := h
   refine ⟨he, ?_⟩
   exact h
  have h := h.1 (of_decide_eq_true du)
  refine thenW_in fun ds ek => ?_
  have ad := (Ext.refl no bl).x_drew ek
  have a0 := a0.x_drew ek
  obtain ⟨f4, dr, h⟩ := h
  refine ⟨f4, (ad).cell dr id, ?_⟩
  obtain ⟨fd, cz, h⟩ := h
  refine elim_some cz ?_
  obtain ⟨eo, e6, h⟩ := h
  refine ⟨eo, (ad).cell e6 id, ?_⟩
  obtain ⟨em, cw, h⟩ := h
  refine ⟨em, (ad).cell cw id, ?_⟩
  obtain ⟨fh, dd, h⟩ := h
  refine elim_some dd ?_
  obtain ⟨au, dk, h⟩ := h
  refine ⟨au, (ad).cell dk id, ?_⟩
  refine ⟨a1, a3, a2, a0.celli 4 rfl rfl, ?_⟩
  obtain ⟨fi, e7, h⟩ := h
  refine elim_some e7 ?_
  obtain ⟨en, eq, h⟩ := h
  refine ⟨en, eq, ?_⟩
  obtain ⟨d0, cn, dh, cv, h⟩ := h
  refine ⟨d0, cn, dh, (ad).cell cv id, ?_⟩
  have h := h ds ad
  refine h.mono fun ey cl h => ?_
  obtain ⟨an, ax, he, hk, h⟩ := h
  refine ⟨an, ax, he, ?_⟩
  have a0 := hk.blk a0 (by simp)
  unfold epochs_Ring_Learn.J2
  refine thenW_in fun df ec => ?_
  have ao := (Ext.refl no cl).x_drew ec
  have a0 := a0.x_drew ec
  obtain ⟨ev, d8, h⟩ := h
  refine ⟨ev, (ao).cell d8 id, ?_⟩
  obtain ⟨f1, cp, h⟩ := h
  refine ⟨f1, (ao).cell cp id, ?_⟩
  obtain ⟨fk, d5, h⟩ := h
  refine elim_some d5 ?_
  obtain ⟨b6, b8, ay, eb, h⟩ := h
  refine ⟨b6, b8, ay, (ao).cell eb id, ?_⟩
  refine thenW_in fun ea ce => ?_
  have a0 := a0.x_alloc ce
  have h := h ea df.heap.size (ao.x_alloc ce) (Blk.of_new ce) (ao).size (size_lt_alloc ce)
  obtain ⟨e4, cr, cy, h⟩ := h
  refine ⟨e4, cr, cy, ?_⟩
  obtain ⟨cj, ci, dp, dg, hr, hk, h⟩ := h
  refine ⟨cj, ci, dp, dg, hr, ?_⟩
  have a0 := hk.blk a0 (by simp)
  obtain ⟨e3, h⟩ := h
  refine ⟨e3, ?_⟩
  obtain ⟨ff, d4, h⟩ := h
  refine elim_some d4 ?_
  obtain ⟨hcs, hof, h⟩ := h
  refine ⟨hcs, thenW_in fun da ed => ?_⟩
  replace h := thenW_out h ed
  have a0 := a0.off (by rw [block_add]; exact hof _ (by simp)) ed
  unfold epochs_Ring_Learn.J1
  refine thenW_in fun dx eg => ?_
  have b1 := (Ext.refl no da).x_drew eg
  have a0 := a0.x_drew eg
  obtain ⟨f5, cq, h⟩ := h
  refine ⟨f5, (b1).cell cq id, ?_⟩
  obtain ⟨f7, e2, h⟩ := h
  refine ⟨f7, (b1).cell e2 id, ?_⟩
  obtain ⟨fj, dj, h⟩ := h
  refine elim_some dj ?_
  obtain ⟨b7, b9, ba, d3, h⟩ := h
  refine ⟨b7, b9, ba, (b1).cell d3 id, ?_⟩
  refine ⟨a6, a4, a7, a0.celli 5 rfl rfl, ?_⟩
  have h := h dx b1
  refine h.mono fun ez bd h => ?_
  obtain ⟨am, ap, aq, he, h⟩ := h
  refine ⟨am, ap, aq, he, ?_⟩
  obtain ⟨dt, cu, e0, h⟩ := h
  refine ⟨dt, cu, e0, ?_⟩
  refine thenW_in fun db e1 => ?_
  have h := h db bd.heap.size ((Ext.refl no bd).x_alloc e1) (Blk.of_new e1) ((Ext.refl no bd)).size (size_lt_alloc e1)
  obtain ⟨dv, dm, e5, h⟩ := h
  refine ⟨dv, dm, e5, ?_⟩
  obtain ⟨dq, d1, co, cx, hr, h⟩ := h
  refine ⟨dq, d1, co, cx, hr, ?_⟩
  obtain ⟨ct, h⟩ := h
  refine ⟨ct, ?_⟩
  obtain ⟨fe, d7, h⟩ := h
  refine elim_some d7 ?_
  obtain ⟨hcs, h⟩ := h
  refine ⟨hcs, thenW_in fun fc f9 => ?_⟩
  replace h := thenW_out h f9
  obtain ⟨f3, cs, h⟩ := h
  refine ⟨f3, cs, ?_⟩
  refine h.mono fun et ew h => ?_
  obtain ⟨he, h⟩ := h
  refine ⟨he, ?_⟩
  exact h

theorem epochs_Ring_Learn.go (r1 : Option Addr) (a6 : Int) (a9 : Int) (a1 : Int) (a4 : Int) (a3 : Option Addr) (a2 : Nat) (a0 : Nat) (a5 : Option Addr) (a7 : Nat) (a8 : Nat) {R : Value → World → Prop} {w : World} (h : epochs_Ring_Learn.N r1 a6 a9 a1 a4 a3 a2 a0 a5 a7 a8 R w) : Calls Try.prog 11 #[.pointer r1, .agg #[.int .i64 a6, .int .i64 a9, .int .u64 a1, .int .i64 a4, .slice a3 a2 a0, .slice a5 a7 a8]] w fun e w' => ∃ v, e = .returned v ∧ R v w' := epochs_Ring_Learn.ok r1 a6 a9 a1 a4 a3 a2 a0 a5 a7 a8 (epochs_Ring_Learn.up r1 a6 a9 a1 a4 a3 a2 a0 a5 a7 a8 h)
theorem epochs_Ring_Learn.run (r1 : Option Addr) (a6 : Int) (a9 : Int) (a1 : Int) (a4 : Int) (a3 : Option Addr) (a2 : Nat) (a0 : Nat) (a5 : Option Addr) (a7 : Nat) (a8 : Nat) {V : Value} {Q : World → Prop} {w : World} (h : epochs_Ring_Learn.N r1 a6 a9 a1 a4 a3 a2 a0 a5 a7 a8 (fun v w' => v = V ∧ Q w') w) : Calls Try.prog 11 #[.pointer r1, .agg #[.int .i64 a6, .int .i64 a9, .int .u64 a1, .int .i64 a4, .slice a3 a2 a0, .slice a5 a7 a8]] w (Ret V Q) := (epochs_Ring_Learn.go r1 a6 a9 a1 a4 a3 a2 a0 a5 a7 a8 h).mono fun e w' ⟨v, he, hv, hq⟩ => ⟨by rw [he, hv], hq⟩

abbrev epochs_Begin.J1 (aj : Option Addr) (ah : Nat) (ai : Nat) (ae : Addr) (ac : Int) (ad : Int) (I0 : Nat → List Value → World → Prop) (af : Addr) (ag : Nat) (R : Value → World → Prop) (a3 : World) : Prop :=
 ∃ (a1 : Option Addr) (a2 : Nat) (a0 : Nat), a3.cell? (af.add 4) = some (.slice a1 a2 a0) ∧
 ∃ (a4 : Int), a3.cell? (ae.add 0) = some (.int .i64 a4) ∧
 thenW (a3.alloc (.cells #[.int .i64 a4, .slice aj ah ai] 60)) fun a9 =>
 ∃ (a7 : Option Addr) (a8 : Nat) (a6 : Nat) (a5 : World), (Builtin.append_ #[50, 50] 50 #[.slice a1 a2 a0, .slice (some (blk a3.heap.size)) 1 1]).run Try.prog a9 = .ok (.slice a7 a8 a6) a5 ∧
 canStore a5 ((af.add 4).add 0) ∧
 thenW (a5.setCell ((af.add 4).add 0) (.slice a7 a8 a6)) fun ab =>
 ∃ aa, aa < ag ∧ I0 aa [.int .u64 ac, .int .i64 (IntKind.i64.wrap (ad + 1))] ab

abbrev epochs_Begin.J2 (b5 : Int) (b3 : Int) (I0 : Nat → List Value → World → Prop) (ai : Addr) (b7 : Option Addr) (b6 : Nat) (an : Option Addr) (am : Nat) (R : Value → World → Prop) (a0 : World) : Prop :=
 an.elim False fun b8 =>
 0 ≤ (b3 : Int) ∧ (b3 : Int) < (am : Int) ∧
 ∃ (ak : Int) (a9 : Int) (ah : Int) (al : Int) (ad : Int), cellsAt a0 (b8.add (Int.toNat b3 * 5)) [.int .i64 ak, .int .u64 a9, .int .i64 ah, .int .i64 al, .int .i64 ad] 0 ∧
 thenW (a0.alloc (.cells #[.int .i64 0, .int .u64 0, .int .i64 0, .int .i64 0, .int .i64 0] 70)) fun b2 =>
 canStore b2 ((blk a0.heap.size).add 0) ∧
 thenW (b2.setCell ((blk a0.heap.size).add 0) (.int .i64 ak)) fun b0 =>
 canStore b0 ((blk a0.heap.size).add 1) ∧
 thenW (b0.setCell ((blk a0.heap.size).add 1) (.int .u64 a9)) fun ar =>
 canStore ar ((blk a0.heap.size).add 2) ∧
 thenW (ar.setCell ((blk a0.heap.size).add 2) (.int .i64 ah)) fun av =>
 canStore av ((blk a0.heap.size).add 3) ∧
 thenW (av.setCell ((blk a0.heap.size).add 3) (.int .i64 al)) fun ap =>
 canStore ap ((blk a0.heap.size).add 4) ∧
 thenW (ap.setCell ((blk a0.heap.size).add 4) (.int .i64 ad)) fun az =>
 ∃ (ac : Int), az.cell? ((blk a0.heap.size).add 1) = some (.int .u64 ac) ∧
 Calls Try.prog 30 #[.pointer b7, .int .u64 ac, .int .u64 b5] az fun b4 ao => ∃ (aj : Option Addr) (ag : Nat) (af : Nat) (ae : Int), b4 = .returned (.tuple #[.slice aj ag af, .int .i64 ae]) ∧
 bif ae != 0 then (
 canStore ao (ai.add 0) ∧
 thenW (ao.setCell (ai.add 0) (.int .i64 0)) fun au =>
 canStore au (ai.add 1) ∧
 thenW (au.setCell (ai.add 1) (.int .i64 0)) fun ax =>
 canStore ax (ai.add 2) ∧
 thenW (ax.setCell (ai.add 2) (.int .u64 0)) fun b1 =>
 canStore b1 (ai.add 3) ∧
 thenW (b1.setCell (ai.add 3) (.int .i64 0)) fun aw =>
 canStore aw (ai.add 4) ∧
 thenW (aw.setCell (ai.add 4) (.slice none 0 0)) fun aq =>
 canStore aq (ai.add 5) ∧
 thenW (aq.setCell (ai.add 5) (.slice none 0 0)) fun ay =>
 ∃ (a8 : Int) (ab : Int) (a2 : Int) (a5 : Int) (a1 : Option Addr) (a3 : Nat) (a4 : Nat) (a7 : Option Addr) (aa : Nat) (a6 : Nat), cellsAt ay ai [.int .i64 a8, .int .i64 ab, .int .u64 a2, .int .i64 a5, .slice a1 a3 a4, .slice a7 aa a6] 0 ∧
 R (.tuple #[.agg #[.int .i64 a8, .int .i64 ab, .int .u64 a2, .int .i64 a5, .slice a1 a3 a4, .slice a7 aa a6], .int .u64 0, .int .i64 ae]) ay) else (
 epochs_Begin.J1 aj ag af (blk a0.heap.size) b5 b3 I0 ai b6 R ao)

abbrev epochs_Begin.J3 (bz : Int) (c6 : Option Addr) (c7 : Int) (c3 : Addr) (a0 : Addr) (R : Value → World → Prop) (b2 : World) : Prop :=
 ∃ (bb : Int), b2.cell? (c3.add 1) = some (.int .i64 bb) ∧
 bif decide (bb ≥ 0) then (
 ∃ (bd : Int), b2.cell? (c3.add 1) = some (.int .i64 bd) ∧
 Calls Try.prog 32 #[.int .i64 (IntKind.i64.wrap (bd + 1))] b2 fun c2 c4 => ∃ (az : Option Addr) (b6 : Nat) (ay : Nat), c2 = .returned (.slice az b6 ay) ∧
 Calls Try.prog 33 #[.int .u64 c7] c4 fun c5 c0 => ∃ (b0 : Option Addr) (av : Nat) (ar : Nat), c5 = .returned (.slice b0 av ar) ∧
 Calls Try.prog 31 #[.pointer c6, .int .u64 bz, .slice az b6 ay, .slice b0 av ar] c0 fun c1 bm => ∃ (b1 : Option Addr) (ax : Nat) (aw : Nat) (bk : Int), c1 = .returned (.tuple #[.slice b1 ax aw, .int .i64 bk]) ∧
 canStore bm ((a0.add 5).add 0) ∧
 thenW (bm.setCell ((a0.add 5).add 0) (.slice b1 ax aw)) fun bj =>
 ∃ (ba : Int) (bh : Int) (ab : Int) (au : Int) (ai : Option Addr) (ag : Nat) (ac : Nat) (b8 : Option Addr) (b7 : Nat) (be : Nat), cellsAt bj a0 [.int .i64 ba, .int .i64 bh, .int .u64 ab, .int .i64 au, .slice ai ag ac, .slice b8 b7 be] 0 ∧
 canStore bj (a0.add 0) ∧
 thenW (bj.setCell (a0.add 0) (.int .i64 ba)) fun bu =>
 canStore bu (a0.add 1) ∧
 thenW (bu.setCell (a0.add 1) (.int .i64 bh)) fun bo =>
 canStore bo (a0.add 2) ∧
 thenW (bo.setCell (a0.add 2) (.int .u64 ab)) fun bp =>
 canStore bp (a0.add 3) ∧
 thenW (bp.setCell (a0.add 3) (.int .i64 au)) fun bx =>
 canStore bx (a0.add 4) ∧
 thenW (bx.setCell (a0.add 4) (.slice ai ag ac)) fun bt =>
 canStore bt (a0.add 5) ∧
 thenW (bt.setCell (a0.add 5) (.slice b8 b7 be)) fun bl =>
 ∃ (ad : Int) (b4 : Int) (a5 : Int) (aa : Int) (a6 : Option Addr) (a7 : Nat) (a3 : Nat) (ap : Option Addr) (ah : Nat) (ae : Nat), cellsAt bl a0 [.int .i64 ad, .int .i64 b4, .int .u64 a5, .int .i64 aa, .slice a6 a7 a3, .slice ap ah ae] 0 ∧
 R (.tuple #[.agg #[.int .i64 ad, .int .i64 b4, .int .u64 a5, .int .i64 aa, .slice a6 a7 a3, .slice ap ah ae], .int .u64 bz, .int .i64 0]) bl) else (
 ∃ (bf : Int) (bi : Int) (ak : Int) (b3 : Int) (am : Option Addr) (al : Nat) (aj : Nat) (bc : Option Addr) (b9 : Nat) (bg : Nat), cellsAt b2 a0 [.int .i64 bf, .int .i64 bi, .int .u64 ak, .int .i64 b3, .slice am al aj, .slice bc b9 bg] 0 ∧
 canStore b2 (a0.add 0) ∧
 thenW (b2.setCell (a0.add 0) (.int .i64 bf)) fun br =>
 canStore br (a0.add 1) ∧
 thenW (br.setCell (a0.add 1) (.int .i64 bi)) fun bv =>
 canStore bv (a0.add 2) ∧
 thenW (bv.setCell (a0.add 2) (.int .u64 ak)) fun bq =>
 canStore bq (a0.add 3) ∧
 thenW (bq.setCell (a0.add 3) (.int .i64 b3)) fun bw =>
 canStore bw (a0.add 4) ∧
 thenW (bw.setCell (a0.add 4) (.slice am al aj)) fun bs =>
 canStore bs (a0.add 5) ∧
 thenW (bs.setCell (a0.add 5) (.slice bc b9 bg)) fun bn =>
 ∃ (an : Int) (b5 : Int) (a1 : Int) (a9 : Int) (a4 : Option Addr) (a2 : Nat) (a8 : Nat) (ao : Option Addr) (af : Nat) (aq : Nat), cellsAt bn a0 [.int .i64 an, .int .i64 b5, .int .u64 a1, .int .i64 a9, .slice a4 a2 a8, .slice ao af aq] 0 ∧
 R (.tuple #[.agg #[.int .i64 an, .int .i64 b5, .int .u64 a1, .int .i64 a9, .slice a4 a2 a8, .slice ao af aq], .int .u64 bz, .int .i64 0]) bn)

abbrev epochs_Begin.J4 (ab : Addr) (b5 : Addr) (b0 : Option Addr) (b7 : Int) (R : Value → World → Prop) (b1 : World) : Prop :=
 Calls Try.prog 28 #[.pointer b0] b1 fun az ax => ∃ (aj : Int), az = .returned (.int .u64 aj) ∧
 canStore ax ((ab.add 0).add 0) ∧
 thenW (ax.setCell ((ab.add 0).add 0) (.int .i64 3)) fun aw =>
 ∃ (al : Option Addr) (ao : Nat) (aq : Nat) (ac : Int), cellsAt aw b5 [.slice al ao aq, .int .i64 ac] 0 ∧
 Calls Try.prog 29 #[.agg #[.slice al ao aq, .int .i64 ac]] aw fun b3 b2 => ∃ (ai : Option Addr) (ad : Nat) (av : Nat), b3 = .returned (.slice ai ad av) ∧
 ∃ (I0 : Nat → List Value → World → Prop) (b6 : Nat), I0 b6 [.int .u64 aj, .int .i64 0] b2 ∧ ∀ (b4 : Nat) (af : World) (ah : Int) (ay : Int), I0 b4 [.int .u64 ah, .int .i64 ay] af →
 bif decide (ay < (ad : Int)) then (
 epochs_Begin.J2 ah ay I0 ab b0 b4 ai ad R af) else (
 ∃ (ag : Option Addr) (a9 : Nat) (ae : Nat), af.cell? (ab.add 4) = some (.slice ag a9 ae) ∧
 bif (a9 : Int) == 0 then (
 canStore af (ab.add 0) ∧
 thenW (af.setCell (ab.add 0) (.int .i64 0)) fun ar =>
 canStore ar (ab.add 1) ∧
 thenW (ar.setCell (ab.add 1) (.int .i64 0)) fun au =>
 canStore au (ab.add 2) ∧
 thenW (au.setCell (ab.add 2) (.int .u64 0)) fun ak =>
 canStore ak (ab.add 3) ∧
 thenW (ak.setCell (ab.add 3) (.int .i64 0)) fun an =>
 canStore an (ab.add 4) ∧
 thenW (an.setCell (ab.add 4) (.slice none 0 0)) fun am =>
 canStore am (ab.add 5) ∧
 thenW (am.setCell (ab.add 5) (.slice none 0 0)) fun ap =>
 ∃ (a6 : Int) (aa : Int) (a2 : Int) (a4 : Int) (a1 : Option Addr) (a3 : Nat) (a0 : Nat) (a8 : Option Addr) (a7 : Nat) (a5 : Nat), cellsAt ap ab [.int .i64 a6, .int .i64 aa, .int .u64 a2, .int .i64 a4, .slice a1 a3 a0, .slice a8 a7 a5] 0 ∧
 R (.tuple #[.agg #[.int .i64 a6, .int .i64 aa, .int .u64 a2, .int .i64 a4, .slice a1 a3 a0, .slice a8 a7 a5], .int .u64 0, .int .i64 10]) ap) else (
 epochs_Begin.J3 ah b0 b7 b5 ab R af))

def epochs_Begin.M (o1 : Option Addr) (ay : Option Addr) (aw : Nat) (ax : Nat) (ak : Int) (am : Int) (R : Value → World → Prop) (w : World) : Prop :=
 thenW (w.alloc (.cells #[.slice ay aw ax, .int .i64 ak] 43)) fun af =>
 thenW (af.alloc (.cells #[.int .i64 0, .int .i64 0, .int .u64 0, .int .i64 0, .slice none 0 0, .slice none 0 0] 52)) fun av =>
 bif Option.isNone o1 then (
 ∃ (aj : Int) (al : Int) (ae : Int) (ac : Int) (a6 : Option Addr) (a9 : Nat) (aa : Nat) (ag : Option Addr) (ah : Nat) (ai : Nat), cellsAt av (blk af.heap.size) [.int .i64 aj, .int .i64 al, .int .u64 ae, .int .i64 ac, .slice a6 a9 aa, .slice ag ah ai] 0 ∧
 canStore av ((blk af.heap.size).add 0) ∧
 thenW (av.setCell ((blk af.heap.size).add 0) (.int .i64 aj)) fun aq =>
 canStore aq ((blk af.heap.size).add 1) ∧
 thenW (aq.setCell ((blk af.heap.size).add 1) (.int .i64 al)) fun an =>
 canStore an ((blk af.heap.size).add 2) ∧
 thenW (an.setCell ((blk af.heap.size).add 2) (.int .u64 ae)) fun ar =>
 canStore ar ((blk af.heap.size).add 3) ∧
 thenW (ar.setCell ((blk af.heap.size).add 3) (.int .i64 ac)) fun au =>
 canStore au ((blk af.heap.size).add 4) ∧
 thenW (au.setCell ((blk af.heap.size).add 4) (.slice a6 a9 aa)) fun ao =>
 canStore ao ((blk af.heap.size).add 5) ∧
 thenW (ao.setCell ((blk af.heap.size).add 5) (.slice ag ah ai)) fun ap =>
 ∃ (ab : Int) (ad : Int) (a0 : Int) (a4 : Int) (a2 : Option Addr) (a3 : Nat) (a1 : Nat) (a7 : Option Addr) (a8 : Nat) (a5 : Nat), cellsAt ap (blk af.heap.size) [.int .i64 ab, .int .i64 ad, .int .u64 a0, .int .i64 a4, .slice a2 a3 a1, .slice a7 a8 a5] 0 ∧
 R (.tuple #[.agg #[.int .i64 ab, .int .i64 ad, .int .u64 a0, .int .i64 a4, .slice a2 a3 a1, .slice a7 a8 a5], .int .u64 0, .int .i64 23]) ap) else (
 epochs_Begin.J4 (blk af.heap.size) (blk w.heap.size) o1 am R av)

theorem epochs_Begin.eq (o1 : Option Addr) (sL2a : Option Addr) (sL2n : Nat) (sL2c : Nat) (sEpoch3 : Int) (last4 : Int) (R : Value → World → Prop) (w : World) : mfunc Try.prog [(0, [0, 2, 4, 6, 20, 21], [(7, (.one (.int .u64))), (22, (.one (.int .i64)))])] 9 [.pointer o1, .agg #[.slice sL2a sL2n sL2c, .int .i64 sEpoch3], .int .u64 last4] R w = epochs_Begin.M o1 sL2a sL2n sL2c sEpoch3 last4 R w := by kernel_rfl
theorem epochs_Begin.ok (o1 : Option Addr) (a4 : Option Addr) (a2 : Nat) (a3 : Nat) (a0 : Int) (a1 : Int) {R : Value → World → Prop} {w : World} (h : epochs_Begin.M o1 a4 a2 a3 a0 a1 R w) : Calls Try.prog 9 #[.pointer o1, .agg #[.slice a4 a2 a3, .int .i64 a0], .int .u64 a1] w fun e w' => ∃ v, e = .returned v ∧ R v w' :=
  mfunc_ok follows (H := [(0, [0, 2, 4, 6, 20, 21], [(7, (.one (.int .u64))), (22, (.one (.int .i64)))])]) (args := [.pointer o1, .agg #[.slice a4 a2 a3, .int .i64 a0], .int .u64 a1]) (by rw [epochs_Begin.eq]; exact h)

def epochs_Begin.N (o1 : Option Addr) (c0 : Option Addr) (bs : Nat) (bx : Nat) (a1 : Int) (be : Int) (R : Value → World → Prop) (w : World) : Prop :=
 (o1 = none →
 ∀ (bn : World), Ext no w bn →
 R (.tuple #[.agg #[.int .i64 0, .int .i64 0, .int .u64 0, .int .i64 0, .slice none 0 0, .slice none 0 0], .int .u64 0, .int .i64 23]) bn) ∧
 (o1 ≠ none →
 ∀ (bp : World) (bj : Nat) (au : Nat), Ext no w bp → Priv w bp [bj, au] →
 Calls Try.prog 28 #[.pointer o1] bp fun bw bo => ∃ (b4 : Int), bw = .returned (.int .u64 b4) ∧
 Keep [bj, au] bp bo ∧
 ∀ (b9 : World), Ext (fun b => b = au) bo b9 →
 Calls Try.prog 29 #[.agg #[.slice c0 bs bx, .int .i64 a1]] b9 fun bt bm => ∃ (av : Option Addr) (a9 : Nat) (b7 : Nat), bt = .returned (.slice av a9 b7) ∧
 Keep [bj, au] b9 bm ∧
 ∃ (I0 : Nat → List Value → World → Prop) (c5 : Nat), I0 c5 [.int .u64 b4, .int .i64 0, .int .i64 3, .int .i64 0, .int .u64 0, .int .i64 0, .slice none 0 0, .slice none 0 0] bm ∧ ∀ (c4 : Nat) (ac : World) (a6 : Int) (b2 : Int) (aa : Int) (aq : Int) (a3 : Int) (a5 : Int) (a2 : Option Addr) (a0 : Nat) (a4 : Nat) (an : Option Addr) (am : Nat) (al : Nat), I0 c4 [.int .u64 a6, .int .i64 b2, .int .i64 aa, .int .i64 aq, .int .u64 a3, .int .i64 a5, .slice a2 a0 a4, .slice an am al] ac →
 (b2 < (a9 : Int) →
 ∃ c3 : Addr, av = some c3 ∧
 0 ≤ (b2 : Int) ∧ (b2 : Int) < (a9 : Int) ∧
 ∃ (ax : Int) (a7 : Int) (b3 : Int) (bl : Int) (ay : Int), cellsAt ac (c3.add (Int.toNat b2 * 5)) [.int .i64 ax, .int .u64 a7, .int .i64 b3, .int .i64 bl, .int .i64 ay] 0 ∧
 ∀ (b0 : World) (c1 : Nat), Ext no ac b0 → Priv ac b0 [c1] →
 Calls Try.prog 30 #[.pointer o1, .int .u64 a7, .int .u64 a6] b0 fun bu b1 => ∃ (ap : Option Addr) (ar : Nat) (ao : Nat) (a8 : Int), bu = .returned (.tuple #[.slice ap ar ao, .int .i64 a8]) ∧
 Keep [bj, au, c1] b0 b1 ∧
 (a8 ≠ 0 →
 ∀ (bd : World), Ext (fun b => b = au) b1 bd →
 R (.tuple #[.agg #[.int .i64 0, .int .i64 0, .int .u64 0, .int .i64 0, .slice none 0 0, .slice none 0 0], .int .u64 0, .int .i64 a8]) bd) ∧
 (a8 = 0 →
 ∀ (aw : World) (bq : Nat), Ext no b1 aw → Blk aw bq 60 [.int .i64 ax, .slice ap ar ao] → b1.heap.size ≤ bq → bq < aw.heap.size →
 ∃ (bi : Option Addr) (bh : Nat) (bg : Nat) (b6 : World), (Builtin.append_ #[50, 50] 50 #[.slice a2 a0 a4, .slice (some (blk bq)) 1 1]).run Try.prog aw = .ok (.slice bi bh bg) b6 ∧
 Keep [bj, au] aw b6 ∧
 (-9223372036854775808 : Int) ≤ (b2 + 1) ∧ (b2 + 1) < 9223372036854775808 ∧
 ∀ (bc : World), Ext (fun b => b = au) b6 bc →
 ∃ c2, c2 < c4 ∧ I0 c2 [.int .u64 a6, .int .i64 (b2 + 1), .int .i64 aa, .int .i64 aq, .int .u64 a3, .int .i64 a5, .slice bi bh bg, .slice an am al] bc)) ∧
 ((a9 : Int) ≤ b2 →
 ((a0 : Int) = 0 →
 ∀ (bk : World), Ext (fun b => b = au) ac bk →
 R (.tuple #[.agg #[.int .i64 0, .int .i64 0, .int .u64 0, .int .i64 0, .slice none 0 0, .slice none 0 0], .int .u64 0, .int .i64 10]) bk) ∧
 ((a0 : Int) ≠ 0 →
 (a1 ≥ 0 →
 (-9223372036854775808 : Int) ≤ (a1 + 1) ∧ (a1 + 1) < 9223372036854775808 ∧
 Calls Try.prog 32 #[.int .i64 (a1 + 1)] ac fun bv b8 => ∃ (ae : Option Addr) (ab : Nat) (ai : Nat), bv = .returned (.slice ae ab ai) ∧
 Keep [au] ac b8 ∧
 Calls Try.prog 33 #[.int .u64 be] b8 fun br b5 => ∃ (ad : Option Addr) (ak : Nat) (ag : Nat), br = .returned (.slice ad ak ag) ∧
 Keep [au] b8 b5 ∧
 Calls Try.prog 31 #[.pointer o1, .int .u64 a6, .slice ae ab ai, .slice ad ak ag] b5 fun bz ba => ∃ (ah : Option Addr) (aj : Nat) (af : Nat) (az : Int), bz = .returned (.tuple #[.slice ah aj af, .int .i64 az]) ∧
 Keep [au] b5 ba ∧
 ∀ (bb : World), Ext (fun b => b = au) ba bb →
 R (.tuple #[.agg #[.int .i64 aa, .int .i64 aq, .int .u64 a3, .int .i64 a5, .slice a2 a0 a4, .slice ah aj af], .int .u64 a6, .int .i64 0]) bb) ∧
 (a1 < 0 →
 ∀ (bf : World), Ext (fun b => b = au) ac bf →
 R (.tuple #[.agg #[.int .i64 aa, .int .i64 aq, .int .u64 a3, .int .i64 a5, .slice a2 a0 a4, .slice an am al], .int .u64 a6, .int .i64 0]) bf))))

theorem epochs_Begin.up (o1 : Option Addr) (b4 : Option Addr) (b5 : Nat) (b3 : Nat) (ai : Int) (b8 : Int) {R : Value → World → Prop} {w : World} (h : epochs_Begin.N o1 b4 b5 b3 ai b8 R w) : epochs_Begin.M o1 b4 b5 b3 ai b8 R w := by
  unfold epochs_Begin.M
  unfold epochs_Begin.N at h
  refine thenW_in fun ab e5 => ?_
  have ah := Blk.of_new e5
  have fu := ((Ext.refl no w)).size
  have eq := (Ext.refl no w).x_alloc e5
  refine thenW_in fun fo e6 => ?_
  have a3 := Blk.of_new e6
  have bf := (eq).size
  have b7 := Nat.ne_of_lt ah.lt
  have ah := ah.x_alloc e6
  have f8 := eq.x_alloc e6
  refine bif_of (fun c7 => ?_) (fun c7 => ?_)
  ·have h := h.1 (isNone_t c7)
   refine ⟨0, 0, 0, 0, none, 0, 0, none, 0, 0, ⟨a3.celli 0 rfl rfl, a3.celli 1 rfl rfl, a3.celli 2 rfl rfl, a3.celli 3 rfl rfl, a3.celli 4 rfl rfl, a3.celli 5 rfl rfl, trivial⟩, ?_⟩
   refine ⟨a3.cani 0 rfl rfl, thenW_in fun fv e8 => ?_⟩
   have fx := f8.x_set (q := ab.heap.size) (i := 0) rfl (.inr bf) e8
   have a3 : Blk fv ab.heap.size 52 [.int .i64 0, .int .i64 0, .int .u64 0, .int .i64 0, .slice none 0 0, .slice none 0 0] := a3.seti 0 rfl e8
   refine ⟨a3.cani 1 rfl rfl, thenW_in fun fh e9 => ?_⟩
   have fj := fx.x_set (q := ab.heap.size) (i := 1) rfl (.inr bf) e9
   have a3 : Blk fh ab.heap.size 52 [.int .i64 0, .int .i64 0, .int .u64 0, .int .i64 0, .slice none 0 0, .slice none 0 0] := a3.seti 1 rfl e9
   refine ⟨a3.cani 2 rfl rfl, thenW_in fun c2 f3 => ?_⟩
   have dc := fj.x_set (q := ab.heap.size) (i := 2) rfl (.inr bf) f3
   have a3 : Blk c2 ab.heap.size 52 [.int .i64 0, .int .i64 0, .int .u64 0, .int .i64 0, .slice none 0 0, .slice none 0 0] := a3.seti 2 rfl f3
   refine ⟨a3.cani 3 rfl rfl, thenW_in fun cm ev => ?_⟩
   have cl := dc.x_set (q := ab.heap.size) (i := 3) rfl (.inr bf) ev
   have a3 : Blk cm ab.heap.size 52 [.int .i64 0, .int .i64 0, .int .u64 0, .int .i64 0, .slice none 0 0, .slice none 0 0] := a3.seti 3 rfl ev
   refine ⟨a3.cani 4 rfl rfl, thenW_in fun d9 ek => ?_⟩
   have d6 := cl.x_set (q := ab.heap.size) (i := 4) rfl (.inr bf) ek
   have a3 : Blk d9 ab.heap.size 52 [.int .i64 0, .int .i64 0, .int .u64 0, .int .i64 0, .slice none 0 0, .slice none 0 0] := a3.seti 4 rfl ek
   refine ⟨a3.cani 5 rfl rfl, thenW_in fun bs eu => ?_⟩
   have e3 := d6.x_set (q := ab.heap.size) (i := 5) rfl (.inr bf) eu
   have a3 : Blk bs ab.heap.size 52 [.int .i64 0, .int .i64 0, .int .u64 0, .int .i64 0, .slice none 0 0, .slice none 0 0] := a3.seti 5 rfl eu
   refine ⟨0, 0, 0, 0, none, 0, 0, none, 0, 0, ⟨a3.celli 0 rfl rfl, a3.celli 1 rfl rfl, a3.celli 2 rfl rfl, a3.celli 3 rfl rfl, a3.celli 4 rfl rfl, a3.celli 5 rfl rfl, trivial⟩, ?_⟩
   have h := h bs e3
   exact h
  have h := h.2 (isNone_f c7)
  unfold epochs_Begin.J4
  have h := h fo (w.heap.size) (ab.heap.size) f8 (Priv.cons fu ah.lt (Priv.cons bf a3.lt Priv.nil))
  refine h.mono fun fi bi h => ?_
  obtain ⟨bn, he, hk, h⟩ := h
  refine ⟨bn, he, ?_⟩
  have ah := hk.blk ah (by simp)
  have a3 := hk.blk a3 (by simp)
  have c9 : Ext (fun b => b = ab.heap.size) bi bi := ((Ext.refl no bi)).none
  refine ⟨a3.cani 0 rfl rfl, thenW_in fun br d4 => ?_⟩
  have dj := c9.x_set (q := ab.heap.size) (i := 0) rfl (.inl rfl) d4
  have ah := ah.oth (q := ab.heap.size) (i := 0) rfl b7 d4
  have a3 : Blk br ab.heap.size 52 [.int .i64 3, .int .i64 0, .int .u64 0, .int .i64 0, .slice none 0 0, .slice none 0 0] := a3.seti 0 rfl d4
  refine ⟨b4, b5, b3, ai, ⟨ah.celli 0 rfl rfl, ah.celli 1 rfl rfl, trivial⟩, ?_⟩
  have h := h br dj
  refine h.mono fun ff ft h => ?_
  obtain ⟨b9, bd, bc, he, hk, h⟩ := h
  refine ⟨b9, bd, bc, he, ?_⟩
  have ah := hk.blk ah (by simp)
  have a3 := hk.blk a3 (by simp)
  obtain ⟨I0, fs, h0, h⟩ := h
  refine ⟨fun k vs ww => ∃ (a9 : Int) (aa : Int) (a4 : Int) (a5 : Int) (a0 : Option Addr) (a2 : Nat) (a1 : Nat) (a7 : Option Addr) (a6 : Nat) (a8 : Nat), Blk ww w.heap.size 43 [.slice b4 b5 b3, .int .i64 ai] ∧ Blk ww ab.heap.size 52 [.int .i64 a9, .int .i64 aa, .int .u64 a4, .int .i64 a5, .slice a0 a2 a1, .slice a7 a6 a8] ∧ I0 k (vs ++ [.int .i64 a9, .int .i64 aa, .int .u64 a4, .int .i64 a5, .slice a0 a2 a1, .slice a7 a6 a8]) ww, fs, ⟨3, 0, 0, 0, none, 0, 0, none, 0, 0, ah, a3, h0⟩, fun fq af bt fz hI => ?_⟩
  obtain ⟨a9, aa, a4, a5, a0, a2, a1, a7, a6, a8, ah, a3, hI⟩ := hI
  have h := h fq af bt fz a9 aa a4 a5 a0 a2 a1 a7 a6 a8 hI
  refine bif_of (fun dx => ?_) (fun dx => ?_)
  ·have h := h.1 (of_decide_eq_true dx)
   unfold epochs_Begin.J2
   obtain ⟨g0, dl, h⟩ := h
   refine elim_some dl ?_
   obtain ⟨fe, fk, h⟩ := h
   refine ⟨fe, fk, ?_⟩
   obtain ⟨aj, ag, ak, ar, ao, ct, h⟩ := h
   refine ⟨aj, ag, ak, ar, ao, ct, ?_⟩
   refine thenW_in fun fm c1 => ?_
   have al := Blk.of_new c1
   have bj := ((Ext.refl no af)).size
   have am := Nat.ne_of_lt ah.lt
   have ah := ah.x_alloc c1
   have an := Nat.ne_of_lt a3.lt
   have a3 := a3.x_alloc c1
   have dz := (Ext.refl no af).x_alloc c1
   refine ⟨al.cani 0 rfl rfl, thenW_in fun dh bv => ?_⟩
   have ed := dz.x_set (q := af.heap.size) (i := 0) rfl (.inr bj) bv
   have ah := ah.oth (q := af.heap.size) (i := 0) rfl am bv
   have a3 := a3.oth (q := af.heap.size) (i := 0) rfl an bv
   have al : Blk dh af.heap.size 70 [.int .i64 aj, .int .u64 0, .int .i64 0, .int .i64 0, .int .i64 0] := al.seti 0 rfl bv
   refine ⟨al.cani 1 rfl rfl, thenW_in fun dp bw => ?_⟩
   have dk := ed.x_set (q := af.heap.size) (i := 1) rfl (.inr bj) bw
   have ah := ah.oth (q := af.heap.size) (i := 1) rfl am bw
   have a3 := a3.oth (q := af.heap.size) (i := 1) rfl an bw
   have al : Blk dp af.heap.size 70 [.int .i64 aj, .int .u64 ag, .int .i64 0, .int .i64 0, .int .i64 0] := al.seti 1 rfl bw
   refine ⟨al.cani 2 rfl rfl, thenW_in fun cf bz => ?_⟩
   have e0 := dk.x_set (q := af.heap.size) (i := 2) rfl (.inr bj) bz
   have ah := ah.oth (q := af.heap.size) (i := 2) rfl am bz
   have a3 := a3.oth (q := af.heap.size) (i := 2) rfl an bz
   have al : Blk cf af.heap.size 70 [.int .i64 aj, .int .u64 ag, .int .i64 ak, .int .i64 0, .int .i64 0] := al.seti 2 rfl bz
   refine ⟨al.cani 3 rfl rfl, thenW_in fun cd c0 => ?_⟩
   have d0 := e0.x_set (q := af.heap.size) (i := 3) rfl (.inr bj) c0
   have ah := ah.oth (q := af.heap.size) (i := 3) rfl am c0
   have a3 := a3.oth (q := af.heap.size) (i := 3) rfl an c0
   have al : Blk cd af.heap.size 70 [.int .i64 aj, .int .u64 ag, .int .i64 ak, .int .i64 ar, .int .i64 0] := al.seti 3 rfl c0
   refine ⟨al.cani 4 rfl rfl, thenW_in fun bl bx => ?_⟩
   have dn := d0.x_set (q := af.heap.size) (i := 4) rfl (.inr bj) bx
   have ah := ah.oth (q := af.heap.size) (i := 4) rfl am bx
   have a3 := a3.oth (q := af.heap.size) (i := 4) rfl an bx
   have al : Blk bl af.heap.size 70 [.int .i64 aj, .int .u64 ag, .int .i64 ak, .int .i64 ar, .int .i64 ao] := al.seti 4 rfl bx
   refine ⟨ag, al.celli 1 rfl rfl, ?_⟩
   have h := h bl (af.heap.size) dn (Priv.cons bj al.lt Priv.nil)
   refine h.mono fun fw ap h => ?_
   obtain ⟨b0, b6, b2, be, he, hk, h⟩ := h
   refine ⟨b0, b6, b2, be, he, ?_⟩
   have ah := hk.blk ah (by simp)
   have a3 := hk.blk a3 (by simp)
   have al := hk.blk al (by simp)
   refine bif_fo (fun db => ?_) (fun db => ?_)
   ·have h := h.2 (bne_f db)
    unfold epochs_Begin.J1
    refine ⟨a0, a2, a1, a3.celli 4 rfl rfl, ?_⟩
    refine ⟨aj, al.celli 0 rfl rfl, ?_⟩
    refine thenW_in fun eh bu => ?_
    have ah := ah.x_alloc bu
    have a3 := a3.x_alloc bu
    have h := h eh ap.heap.size ((Ext.refl no ap).x_alloc bu) (Blk.of_new bu) ((Ext.refl no ap)).size (size_lt_alloc bu)
    obtain ⟨bb, ba, bh, az, hr, hk, h⟩ := h
    refine ⟨bb, ba, bh, az, hr, ?_⟩
    have ah := hk.blk ah (by simp)
    have a3 := hk.blk a3 (by simp)
    have cy : Ext (fun b => b = ab.heap.size) az az := ((Ext.refl no az)).none
    refine ⟨a3.cani 4 rfl rfl, thenW_in fun bm d2 => ?_⟩
    have d5 := cy.x_set (q := ab.heap.size) (i := 4) rfl (.inl rfl) d2
    have ah := ah.oth (q := ab.heap.size) (i := 4) rfl b7 d2
    have a3 : Blk bm ab.heap.size 52 [.int .i64 a9, .int .i64 aa, .int .u64 a4, .int .i64 a5, .slice bb ba bh, .slice a7 a6 a8] := a3.seti 4 rfl d2
    obtain ⟨d1, di, h⟩ := h
    try rw [w64 d1 di]
    have h := h bm d5
    obtain ⟨fg, hk, h⟩ := h
    exact ⟨fg, hk, a9, aa, a4, a5, bb, ba, bh, a7, a6, a8, ah, a3, h⟩
   have h := h.1 (bne_t db)
   have ee : Ext (fun b => b = ab.heap.size) ap ap := ((Ext.refl no ap)).none
   refine ⟨a3.cani 0 rfl rfl, thenW_in fun cj ex => ?_⟩
   have cb := ee.x_set (q := ab.heap.size) (i := 0) rfl (.inl rfl) ex
   have a3 : Blk cj ab.heap.size 52 [.int .i64 0, .int .i64 aa, .int .u64 a4, .int .i64 a5, .slice a0 a2 a1, .slice a7 a6 a8] := a3.seti 0 rfl ex
   refine ⟨a3.cani 1 rfl rfl, thenW_in fun da f4 => ?_⟩
   have c5 := cb.x_set (q := ab.heap.size) (i := 1) rfl (.inl rfl) f4
   have a3 : Blk da ab.heap.size 52 [.int .i64 0, .int .i64 0, .int .u64 a4, .int .i64 a5, .slice a0 a2 a1, .slice a7 a6 a8] := a3.seti 1 rfl f4
   refine ⟨a3.cani 2 rfl rfl, thenW_in fun ec f1 => ?_⟩
   have e2 := c5.x_set (q := ab.heap.size) (i := 2) rfl (.inl rfl) f1
   have a3 : Blk ec ab.heap.size 52 [.int .i64 0, .int .i64 0, .int .u64 0, .int .i64 a5, .slice a0 a2 a1, .slice a7 a6 a8] := a3.seti 2 rfl f1
   refine ⟨a3.cani 3 rfl rfl, thenW_in fun dy em => ?_⟩
   have cg := e2.x_set (q := ab.heap.size) (i := 3) rfl (.inl rfl) em
   have a3 : Blk dy ab.heap.size 52 [.int .i64 0, .int .i64 0, .int .u64 0, .int .i64 0, .slice a0 a2 a1, .slice a7 a6 a8] := a3.seti 3 rfl em
   refine ⟨a3.cani 4 rfl rfl, thenW_in fun ch fa => ?_⟩
   have ds := cg.x_set (q := ab.heap.size) (i := 4) rfl (.inl rfl) fa
   have a3 : Blk ch ab.heap.size 52 [.int .i64 0, .int .i64 0, .int .u64 0, .int .i64 0, .slice none 0 0, .slice a7 a6 a8] := a3.seti 4 rfl fa
   refine ⟨a3.cani 5 rfl rfl, thenW_in fun bk f6 => ?_⟩
   have ea := ds.x_set (q := ab.heap.size) (i := 5) rfl (.inl rfl) f6
   have a3 : Blk bk ab.heap.size 52 [.int .i64 0, .int .i64 0, .int .u64 0, .int .i64 0, .slice none 0 0, .slice none 0 0] := a3.seti 5 rfl f6
   refine ⟨0, 0, 0, 0, none, 0, 0, none, 0, 0, ⟨a3.celli 0 rfl rfl, a3.celli 1 rfl rfl, a3.celli 2 rfl rfl, a3.celli 3 rfl rfl, a3.celli 4 rfl rfl, a3.celli 5 rfl rfl, trivial⟩, ?_⟩
   have h := h bk ea
   exact h
  have h := h.2 (Int.not_lt.1 (of_decide_eq_false dx))
  refine ⟨a0, a2, a1, a3.celli 4 rfl rfl, ?_⟩
  refine bif_of (fun ck => ?_) (fun ck => ?_)
  ·have h := h.1 (beq_t ck)
   have cr : Ext (fun b => b = ab.heap.size) af af := ((Ext.refl no af)).none
   refine ⟨a3.cani 0 rfl rfl, thenW_in fun ca es => ?_⟩
   have e7 := cr.x_set (q := ab.heap.size) (i := 0) rfl (.inl rfl) es
   have a3 : Blk ca ab.heap.size 52 [.int .i64 0, .int .i64 aa, .int .u64 a4, .int .i64 a5, .slice a0 a2 a1, .slice a7 a6 a8] := a3.seti 0 rfl es
   refine ⟨a3.cani 1 rfl rfl, thenW_in fun cn ep => ?_⟩
   have cv := e7.x_set (q := ab.heap.size) (i := 1) rfl (.inl rfl) ep
   have a3 : Blk cn ab.heap.size 52 [.int .i64 0, .int .i64 0, .int .u64 a4, .int .i64 a5, .slice a0 a2 a1, .slice a7 a6 a8] := a3.seti 1 rfl ep
   refine ⟨a3.cani 2 rfl rfl, thenW_in fun cq ew => ?_⟩
   have cx := cv.x_set (q := ab.heap.size) (i := 2) rfl (.inl rfl) ew
   have a3 : Blk cq ab.heap.size 52 [.int .i64 0, .int .i64 0, .int .u64 0, .int .i64 a5, .slice a0 a2 a1, .slice a7 a6 a8] := a3.seti 2 rfl ew
   refine ⟨a3.cani 3 rfl rfl, thenW_in fun d8 eo => ?_⟩
   have dq := cx.x_set (q := ab.heap.size) (i := 3) rfl (.inl rfl) eo
   have a3 : Blk d8 ab.heap.size 52 [.int .i64 0, .int .i64 0, .int .u64 0, .int .i64 0, .slice a0 a2 a1, .slice a7 a6 a8] := a3.seti 3 rfl eo
   refine ⟨a3.cani 4 rfl rfl, thenW_in fun c6 el => ?_⟩
   have e4 := dq.x_set (q := ab.heap.size) (i := 4) rfl (.inl rfl) el
   have a3 : Blk c6 ab.heap.size 52 [.int .i64 0, .int .i64 0, .int .u64 0, .int .i64 0, .slice none 0 0, .slice a7 a6 a8] := a3.seti 4 rfl el
   refine ⟨a3.cani 5 rfl rfl, thenW_in fun bq f5 => ?_⟩
   have co := e4.x_set (q := ab.heap.size) (i := 5) rfl (.inl rfl) f5
   have a3 : Blk bq ab.heap.size 52 [.int .i64 0, .int .i64 0, .int .u64 0, .int .i64 0, .slice none 0 0, .slice none 0 0] := a3.seti 5 rfl f5
   refine ⟨0, 0, 0, 0, none, 0, 0, none, 0, 0, ⟨a3.celli 0 rfl rfl, a3.celli 1 rfl rfl, a3.celli 2 rfl rfl, a3.celli 3 rfl rfl, a3.celli 4 rfl rfl, a3.celli 5 rfl rfl, trivial⟩, ?_⟩
   have h := h bq co
   exact h
  have h := h.2 (beq_f ck)
  unfold epochs_Begin.J3
  refine ⟨ai, ah.celli 1 rfl rfl, ?_⟩
  refine bif_fo (fun dt => ?_) (fun dt => ?_)
  ·have h := h.2 (Int.not_le.1 (of_decide_eq_false dt))
   refine ⟨a9, aa, a4, a5, a0, a2, a1, a7, a6, a8, ⟨a3.celli 0 rfl rfl, a3.celli 1 rfl rfl, a3.celli 2 rfl rfl, a3.celli 3 rfl rfl, a3.celli 4 rfl rfl, a3.celli 5 rfl rfl, trivial⟩, ?_⟩
   have d3 : Ext (fun b => b = ab.heap.size) af af := ((Ext.refl no af)).none
   refine ⟨a3.cani 0 rfl rfl, thenW_in fun ci fc => ?_⟩
   have dg := d3.x_set (q := ab.heap.size) (i := 0) rfl (.inl rfl) fc
   have a3 : Blk ci ab.heap.size 52 [.int .i64 a9, .int .i64 aa, .int .u64 a4, .int .i64 a5, .slice a0 a2 a1, .slice a7 a6 a8] := a3.seti 0 rfl fc
   refine ⟨a3.cani 1 rfl rfl, thenW_in fun dm ez => ?_⟩
   have ce := dg.x_set (q := ab.heap.size) (i := 1) rfl (.inl rfl) ez
   have a3 : Blk dm ab.heap.size 52 [.int .i64 a9, .int .i64 aa, .int .u64 a4, .int .i64 a5, .slice a0 a2 a1, .slice a7 a6 a8] := a3.seti 1 rfl ez
   refine ⟨a3.cani 2 rfl rfl, thenW_in fun de f0 => ?_⟩
   have dd := ce.x_set (q := ab.heap.size) (i := 2) rfl (.inl rfl) f0
   have a3 : Blk de ab.heap.size 52 [.int .i64 a9, .int .i64 aa, .int .u64 a4, .int .i64 a5, .slice a0 a2 a1, .slice a7 a6 a8] := a3.seti 2 rfl f0
   refine ⟨a3.cani 3 rfl rfl, thenW_in fun du f7 => ?_⟩
   have c3 := dd.x_set (q := ab.heap.size) (i := 3) rfl (.inl rfl) f7
   have a3 : Blk du ab.heap.size 52 [.int .i64 a9, .int .i64 aa, .int .u64 a4, .int .i64 a5, .slice a0 a2 a1, .slice a7 a6 a8] := a3.seti 3 rfl f7
   refine ⟨a3.cani 4 rfl rfl, thenW_in fun dr ei => ?_⟩
   have c4 := c3.x_set (q := ab.heap.size) (i := 4) rfl (.inl rfl) ei
   have a3 : Blk dr ab.heap.size 52 [.int .i64 a9, .int .i64 aa, .int .u64 a4, .int .i64 a5, .slice a0 a2 a1, .slice a7 a6 a8] := a3.seti 4 rfl ei
   refine ⟨a3.cani 5 rfl rfl, thenW_in fun bo ey => ?_⟩
   have dv := c4.x_set (q := ab.heap.size) (i := 5) rfl (.inl rfl) ey
   have a3 : Blk bo ab.heap.size 52 [.int .i64 a9, .int .i64 aa, .int .u64 a4, .int .i64 a5, .slice a0 a2 a1, .slice a7 a6 a8] := a3.seti 5 rfl ey
   refine ⟨a9, aa, a4, a5, a0, a2, a1, a7, a6, a8, ⟨a3.celli 0 rfl rfl, a3.celli 1 rfl rfl, a3.celli 2 rfl rfl, a3.celli 3 rfl rfl, a3.celli 4 rfl rfl, a3.celli 5 rfl rfl, trivial⟩, ?_⟩
   have h := h bo dv
   exact h
  have h := h.1 (of_decide_eq_true dt)
  refine ⟨ai, ah.celli 1 rfl rfl, ?_⟩
  obtain ⟨d1, di, h⟩ := h
  try rw [w64 d1 di]
  refine h.mono fun fr fy h => ?_
  obtain ⟨ax, av, ay, he, hk, h⟩ := h
  refine ⟨ax, av, ay, he, ?_⟩
  have a3 := hk.blk a3 (by simp)
  refine h.mono fun fd fp h => ?_
  obtain ⟨aq, aw, au, he, hk, h⟩ := h
  refine ⟨aq, aw, au, he, ?_⟩
  have a3 := hk.blk a3 (by simp)
  refine h.mono fun fl bg h => ?_
  obtain ⟨ad, ae, ac, b1, he, hk, h⟩ := h
  refine ⟨ad, ae, ac, b1, he, ?_⟩
  have a3 := hk.blk a3 (by simp)
  have c8 : Ext (fun b => b = ab.heap.size) bg bg := ((Ext.refl no bg)).none
  refine ⟨a3.cani 5 rfl rfl, thenW_in fun d7 f9 => ?_⟩
  have e1 := c8.x_set (q := ab.heap.size) (i := 5) rfl (.inl rfl) f9
  have a3 : Blk d7 ab.heap.size 52 [.int .i64 a9, .int .i64 aa, .int .u64 a4, .int .i64 a5, .slice a0 a2 a1, .slice ad ae ac] := a3.seti 5 rfl f9
  refine ⟨a9, aa, a4, a5, a0, a2, a1, ad, ae, ac, ⟨a3.celli 0 rfl rfl, a3.celli 1 rfl rfl, a3.celli 2 rfl rfl, a3.celli 3 rfl rfl, a3.celli 4 rfl rfl, a3.celli 5 rfl rfl, trivial⟩, ?_⟩
  refine ⟨a3.cani 0 rfl rfl, thenW_in fun ef ej => ?_⟩
  have df := e1.x_set (q := ab.heap.size) (i := 0) rfl (.inl rfl) ej
  have a3 : Blk ef ab.heap.size 52 [.int .i64 a9, .int .i64 aa, .int .u64 a4, .int .i64 a5, .slice a0 a2 a1, .slice ad ae ac] := a3.seti 0 rfl ej
  refine ⟨a3.cani 1 rfl rfl, thenW_in fun cu f2 => ?_⟩
  have cc := df.x_set (q := ab.heap.size) (i := 1) rfl (.inl rfl) f2
  have a3 : Blk cu ab.heap.size 52 [.int .i64 a9, .int .i64 aa, .int .u64 a4, .int .i64 a5, .slice a0 a2 a1, .slice ad ae ac] := a3.seti 1 rfl f2
  refine ⟨a3.cani 2 rfl rfl, thenW_in fun cp er => ?_⟩
  have cw := cc.x_set (q := ab.heap.size) (i := 2) rfl (.inl rfl) er
  have a3 : Blk cp ab.heap.size 52 [.int .i64 a9, .int .i64 aa, .int .u64 a4, .int .i64 a5, .slice a0 a2 a1, .slice ad ae ac] := a3.seti 2 rfl er
  refine ⟨a3.cani 3 rfl rfl, thenW_in fun dw et => ?_⟩
  have eb := cw.x_set (q := ab.heap.size) (i := 3) rfl (.inl rfl) et
  have a3 : Blk dw ab.heap.size 52 [.int .i64 a9, .int .i64 aa, .int .u64 a4, .int .i64 a5, .slice a0 a2 a1, .slice ad ae ac] := a3.seti 3 rfl et
  refine ⟨a3.cani 4 rfl rfl, thenW_in fun eg fb => ?_⟩
  have cz := eb.x_set (q := ab.heap.size) (i := 4) rfl (.inl rfl) fb
  have a3 : Blk eg ab.heap.size 52 [.int .i64 a9, .int .i64 aa, .int .u64 a4, .int .i64 a5, .slice a0 a2 a1, .slice ad ae ac] := a3.seti 4 rfl fb
  refine ⟨a3.cani 5 rfl rfl, thenW_in fun bp en => ?_⟩
  have cs := cz.x_set (q := ab.heap.size) (i := 5) rfl (.inl rfl) en
  have a3 : Blk bp ab.heap.size 52 [.int .i64 a9, .int .i64 aa, .int .u64 a4, .int .i64 a5, .slice a0 a2 a1, .slice ad ae ac] := a3.seti 5 rfl en
  refine ⟨a9, aa, a4, a5, a0, a2, a1, ad, ae, ac, ⟨a3.celli 0 rfl rfl, a3.celli 1 rfl rfl, a3.celli 2 rfl rfl, a3.celli 3 rfl rfl, a3.celli 4 rfl rfl, a3.celli 5 rfl rfl, trivial⟩, ?_⟩
  have h := h bp cs
  exact h

theorem epochs_Begin.go (o1 : Option Addr) (a4 : Option Addr) (a2 : Nat) (a3 : Nat) (a0 : Int) (a1 : Int) {R : Value → World → Prop} {w : World} (h : epochs_Begin.N o1 a4 a2 a3 a0 a1 R w) : Calls Try.prog 9 #[.pointer o1, .agg #[.slice a4 a2 a3, .int .i64 a0], .int .u64 a1] w fun e w' => ∃ v, e = .returned v ∧ R v w' := epochs_Begin.ok o1 a4 a2 a3 a0 a1 (epochs_Begin.up o1 a4 a2 a3 a0 a1 h)
end Go.Proofs.Ytaifegpikhjiiaa

/- Great values (more than 24 cells): stored as a whole, and as the one element of a slice literal. -/
set_option linter.unusedSimpArgs false
set_option linter.unusedVariables false
set_option linter.unusedSectionVars false
namespace Go.Mx
open Go
section
variable {P : Program} {w w' : World} {q k : Nat} {t e : TypeId} {cs vs : List Value}
theorem take_setAll : ∀ {vs cur : List Value} {j m : Nat}, (setAll cur j vs).take m = setAll (cur.take m) j vs
  | [], _, _, _ => rfl
  | v :: r, cur, j, m => by rw [setAll, setAll, take_setAll, List.take_set]
theorem Grows.put {w : World} {o : Own} {sz n c g j : Nat} {a : Option Addr} (h : Grows e sz w o g a n c cs) (ok : Tags w o) (hc : cs ≠ []) :
    ∃ b cur, a = some (blk b) ∧ Blk w b e cur ∧ cs.length ≤ cur.length ∧ o b = some g ∧ b < w.heap.size ∧
      ∀ w', Ext (fun x => x = b) w w' → Blk w' b e (setAll cur j vs) → Step (fun i => i = g) w o w' (grow w o) ∧ Grows e sz w' (grow w o) g a n c (setAll cs j vs) := by
  rcases h.own.2 with ⟨hv, h0⟩ | ⟨b, cap, cur, hv, hle, hgb, hnc, hcm, hcs, htk⟩
  · exact absurd (by have := h.own.1; rw [h0] at this; exact List.eq_nil_of_length_eq_zero (by omega)) hc
  cases hv
  have tg := h.tg ⟨b, 0, none⟩ rfl
  have hblk : Blk w b e cur.toList := by unfold Blk; simpa using hgb
  have hcl : cur.toList.length = c * sz := by simpa using hcs
  refine ⟨b, cur.toList, rfl, hblk, ?_, tg.1, tg.2, fun w' X hb' => ?_⟩
  · have := congrArg List.length htk
    rw [List.length_take] at this; omega
  have s : Step (fun i => i = g) w o w' (grow w o) := Step.of_ext X ok fun q hq _ => by subst hq; exact tg.1
  refine ⟨s, ⟨by rw [setAll_length]; exact h.own.1, .inr ⟨b, c, (setAll cur.toList j vs).toArray, rfl, Nat.zero_le _, hb', hnc, hcm, by simpa [setAll_length] using hcs, ?_⟩⟩, fun ad ha => ?_⟩
  · show (setAll cur.toList j vs).take (n * sz) = _
    rw [take_setAll, htk]
  · cases ha; exact ⟨(s.own tg.2).trans tg.1, Nat.lt_of_lt_of_le tg.2 s.size⟩
theorem Grows.ne {w : World} {o : Own} {sz n c g b : Nat} {a : Option Addr} {cs' : List Value} (h : Grows e sz w o g a n c cs) (hb : Blk w b t cs') (hte : t ≠ e) : ∀ ad, a = some ad → ad.block ≠ b := by
  intro ad ha hq
  rcases h.own.2 with ⟨hv, h0⟩ | ⟨q, cap, cur, hv, hle, hgb, _⟩
  · cases hv; cases ha
  · cases hv; cases ha
    simp only at hq
    subst hq
    unfold Blk at hb
    rw [hb] at hgb
    cases hgb
    exact hte rfl
theorem Grows.apart {w : World} {o : Own} {e2 sz sz2 n n2 c c2 g g2 : Nat} {a a2 : Option Addr} {cs2 : List Value} (h : Grows e sz w o g a n c cs) (h2 : Grows e2 sz2 w o g2 a2 n2 c2 cs2) (hte : e ≠ e2) : ∀ x y, a = some x → a2 = some y → x.block ≠ y.block := by
  intro x y hx hy hq
  rcases h2.own.2 with ⟨hv, h0⟩ | ⟨q, cap, cur, hv, hle, hgb, _⟩
  · cases hv; cases hy
  · cases hv; cases hy
    exact h.ne (b := q) (t := e2) (cs' := cur.toList) (by unfold Blk; simpa using hgb) (Ne.symm hte) x hx hq
end
end Go.Mx

/- Epochs: small functions; a ring in memory. -/
set_option linter.unusedVariables false
set_option linter.unusedSimpArgs false
set_option maxRecDepth 20000
set_option maxHeartbeats 2000000
namespace Go.Proofs.Ytaifegpikhjiiaa
open Go Go.Mx Go.Proofs
open W (OwnB GivesW)
def boundL (e : Int) : List UInt8 := numL e.toNat
theorem boundL_le (e : Int) : (boundL e).length ≤ 10 := numF_le _ _
section
variable {w w' w1 : World} {o o' o1 : Own} {q k p N m : Nat} {K : Nat → Prop} {b : List UInt8} {a : Option Addr} {c : Nat}
theorem bound_spec {e : Int} (h0 : 0 ≤ e) (h1 : e < 9223372036854775808) (w : World) : Calls Try.prog 32 #[.int .i64 e] w (fun x w' => ∃ a' c', x = .returned (.slice a' (boundL e).length c') ∧ OwnB w.heap.size w' a' c' (boundL e) ∧ Ext no w w') := by
  refine (epochs_bound.go _ (R := fun v w' => ∃ a' c', v = (.slice a' (boundL e).length c') ∧ OwnB w.heap.size w' a' c' (boundL e) ∧ Ext no w w') ?_).mono fun x w' ⟨v, he, a', c', hv, hw⟩ => ⟨a', c', by rw [he, hv], hw⟩
  unfold epochs_bound.N
  have hw : IntKind.u64.wrap e = ((e.toNat : Nat) : Int) := by rw [wu64 (by omega) (by omega)]; omega
  rw [hw]
  refine (W.Num_spec (bs := []) (c := 0) (RowAt.nil w none) (by decide) (n := e.toNat) (by omega)).mono fun x w4 ⟨a', c', he, ho, hx⟩ => ⟨a', _, c', he, a', c', rfl, ho, hx⟩
theorem row_of_own (h : OwnB w.heap.size w' a c b) (X : Ext no w w') : Row w' (grow w o) a (bytesV b) := Row.fresh h.row fun ad ha => (h.fr ad ha).1
theorem eightN (h t : Nat) : (List.range (t + 1)).map (byteAt h) = (List.range t).map (byteAt h) ++ [byteAt h t] := by rw [List.range_succ, List.map_append]; rfl
theorem eight_spec {h : Nat} (hh : h < 18446744073709551616) (w : World) :
    Calls Try.prog 33 #[.int .u64 h] w (fun e w' => ∃ a' c', e = .returned (.slice a' (boxL h 0).length c') ∧ OwnB w.heap.size w' a' c' (boxL h 0) ∧ Ext no w w') := by
  refine (epochs_eight.go _ (R := fun v w' => ∃ a' c', v = .slice a' (boxL h 0).length c' ∧ OwnB w.heap.size w' a' c' (boxL h 0) ∧ Ext no w w') ?_).mono fun e w' ⟨v, he, a', c', hv, hw⟩ => ⟨a', c', by rw [he, hv], hw⟩
  unfold epochs_eight.N
  refine ⟨fun m vs w1 => ∃ (t : Nat) (a : Option Addr) (c : Nat), vs = [.slice a ((List.range t).map (byteAt h)).length c, .int .i64 t] ∧ m + t = 8 ∧ OwnB w.heap.size w1 a c ((List.range t).map (byteAt h)) ∧ Ext no w w1, 8, ⟨0, none, 0, rfl, rfl, OwnB.nil _ _, Ext.refl _ _⟩, ?_⟩
  rintro m w1 ba bn bc i ⟨t, a, c, hi, hq, hO, X1⟩
  simp only [List.cons.injEq, Value.int.injEq, Value.slice.injEq, true_and, and_true] at hi
  obtain ⟨⟨rfl, rfl, rfl⟩, rfl⟩ := hi
  refine ⟨fun ht => ?_, fun ht => ?_⟩
  · have ht : t < 8 := by omega
    refine ⟨by omega, by omega, by omega, by omega, by omega, fun w9 q10 X9 hb hq10 hq10' => ?_⟩
    have hb' : Blk w9 q10 5 (bytesV [byteAt h t]) := by
      have e : IntKind.u8.wrap (Int.fdiv (h : Int) (2 ^ (min (Int.toNat ((56 : Int) - ((8 : Int) * (t : Int)))) (IntKind.bits .u64)))) = ((byteAt h t).toNat : Int) := by
        have e1 : min (Int.toNat ((56 : Int) - ((8 : Int) * (t : Int)))) (IntKind.bits .u64) = 56 - 8 * t := by
          have : IntKind.bits .u64 = 64 := rfl
          omega
        rw [e1, byteAt_toNat, Int.fdiv_eq_ediv_of_nonneg _ (Int.pow_nonneg (by decide)), IntKind.wrap_u8]
        rw [show ((2 : Int) ^ (56 - 8 * t)) = ((2 ^ (56 - 8 * t) : Nat) : Int) by rw [Int.natCast_pow]; rfl]
        rfl
      rw [e] at hb
      exact hb
    have l1 := X1.size
    have hO9 : OwnB w.heap.size w9 (some (blk q10)) 1 [byteAt h t] := ⟨owns_of_blk hb' rfl (by show (1 : Nat) ≤ maxLen; unfold maxLen; decide), fun ad ha => by cases ha; exact ⟨by show _ ≤ q10; omega, hq10'⟩⟩
    obtain ⟨a', c', w12, hr, hO', hx⟩ := (hO.no X9).append (t := 29) (ty := 29) Try.underlying29 (Nat.le_trans l1 X9.size) (xc := 1) (xs := [byteAt h t]) hO9.row (by rw [List.length_map, List.length_range]; show t + 1 ≤ _; omega)
    rw [← eightN] at hr hO'
    exact ⟨a', _, c', w12, hr, by omega, by omega, m - 1, by omega, t + 1, a', c', rfl, by omega, hO', (X1.trans X9).then hx fun b hb => .inr hb⟩
  · obtain rfl : t = 8 := by omega
    have e : (List.range 8).map (byteAt h) = boxL h 0 := rfl
    rw [e] at hO ⊢
    exact ⟨ba, bc, rfl, hO, X1⟩
end
structure RS where
  who : Int
  secret : Int
  keys : List Int
  olds : List (List UInt8)
def RS.V (R : RS) (k : Nat) (ka : Option Addr) (kc : Nat) (oa : Option Addr) (oc : Nat) : List Value := [.pointer (some (blk k)), .int .i64 R.who, .int .u64 R.secret, .slice ka R.keys.length kc, .slice oa R.olds.length oc]
abbrev KRw (w : World) (o : Own) (g : Nat) (a : Option Addr) (c : Nat) (l : List Int) : Prop := Grows 27 1 w o g a l.length c (l.map u64V)
abbrev ORw (w : World) (o : Own) (g : Nat) (a : Option Addr) (c : Nat) (l : List BS) : Prop := Grows 29 1 w o g a l.length c (l.map BS.v)
def BSk (w : World) (o : Own) (x : BS) : Prop := Row w o x.a (bytesV x.bs) ∧ x.bs.length ≤ x.c
theorem BSk.step {K : Nat → Prop} {w w' : World} {o o' : Own} {x : BS} (h : BSk w o x) (s : Step K w o w' o') : BSk w' o' x := ⟨h.1.step s, h.2⟩

theorem inf29 : (Try.prog.info? 29).map (fun i => (i.zero, i.size, i.bytes)) = some (some (.slice none 0 0), 1, 24) := by kernel_rfl
structure EG (w : World) (o : Own) (q k : Nat) (R : RS) : Prop where
  mem : ∃ ka kc oa oc, ∃ ol : List BS, Blk w q 93 (R.V k ka kc oa oc) ∧ KRw w o q ka kc R.keys ∧ ORw w o q oa oc ol ∧ ol.map BS.bs = R.olds ∧ ∀ x ∈ ol, BSk w o x
  tg : o q = some q
section
variable {w w' w1 : World} {o o' o1 : Own} {q k p N m : Nat} {K : Nat → Prop} {R : RS} {b : List UInt8} {a : Option Addr} {c : Nat}
theorem EG.lt (h : EG w o q k R) : q < w.heap.size := by
  obtain ⟨ka, kc, oa, oc, ol, hb, _⟩ := h.mem
  exact hb.lt
theorem EG.step (h : EG w o q k R) (s : Step K w o w' o') (hk : ¬ K q) : EG w' o' q k R := by
  obtain ⟨⟨ka, kc, oa, oc, ol, hb, hk1, ho, hm, hx⟩, tg⟩ := h
  exact ⟨⟨ka, kc, oa, oc, ol, s.blk hb tg hk, hk1.step s hk, ho.step s hk, hm, fun x h => (hx x h).step s⟩, by rw [s.own hb.lt]; exact tg⟩
theorem u64_ones {l : List Int} : ∀ u ∈ l.map u64V, u.oneCell' = true := fun u hu => by
  obtain ⟨x, _, rfl⟩ := List.mem_map.1 hu
  rfl
theorem bsv_ones {l : List BS} : ∀ u ∈ l.map BS.v, u.oneCell' = true := fun u hu => by
  obtain ⟨x, _, rfl⟩ := List.mem_map.1 hu
  rfl
theorem EG.pushKey (h : EG w o q k R) (ok : Tags w o) (hl : R.keys.length < 1000000) (x : Int) {qb : Nat} (hb : Blk w qb 27 [.int .u64 x]) {ka : Option Addr} {n kc : Nat} (hc : w.cell? ((blk q).add 3) = some (.slice ka n kc)) :
    ∃ a' n' c' w' o', (Builtin.append_ #[22, 22] 22 #[.slice ka n kc, .slice (some (blk qb)) 1 1]).run Try.prog w = .ok (.slice a' n' c') w' ∧ Step (fun j => j = q) w o w' o' ∧
      canStore w' ((blk q).add 3) ∧ ∀ w2, w2 = w'.setCell ((blk q).add 3) (.slice a' n' c') → Step (fun j => j = q) w o w2 (grow w' o') ∧ EG w2 (grow w' o') q k { R with keys := R.keys ++ [x] } := by
  obtain ⟨⟨ka', kc', oa, oc, ol, hbk, hk1, ho, hm, hx⟩, tg⟩ := h
  have hc2 := hbk.cella (i := 3) (v := .slice ka' R.keys.length kc') rfl
  rw [hc] at hc2
  cases hc2
  obtain ⟨i, hi, hz, hsz, hby⟩ := info_of inf27
  obtain ⟨a', c', w', o', hrun, s2, hk2, hk, _⟩ := Grows.push (ty := 22) Try.underlying22 hi hz hsz hby rfl (by decide) hk1 ok hbk.lt (xa := some (blk qb)) (m := 1) (xc := 1) (news := [x].map u64V) rfl (RowAt.of_blk hb) u64_ones (by omega) (by omega)
  have X2 : Ext (fun b => ∃ ad, ka = some ad ∧ b = ad.block) w w' := ⟨s2.ext.os, s2.ext.tape, s2.ext.output, s2.ext.size, fun b hb hn => hk b hb fun ad ha hb' => hn ⟨ad, ha, hb'⟩⟩
  have hb2 : Blk w' q 93 _ := hbk.ext X2 fun ⟨ad, h1, h2⟩ => hk1.ne hbk (by decide) ad h1 h2.symm
  have ho2 : ORw w' o' q oa oc ol := ho.keep X2 (fun ad ha ⟨ad', h1, h2⟩ => ho.apart hk1 (by decide) ad ad' ha h1 h2) fun b hb => s2.own hb
  have tg2 : o' q = some q := by rw [s2.own hbk.lt]; exact tg
  refine ⟨a', _, c', w', o', hrun, s2, hb2.cana (i := 3) rfl, fun w3 e3 => ?_⟩
  have X3 : Ext (fun b => b = q) w' w3 := (Ext.refl (fun b => b = q) w').x_set (q := q) (i := 3) rfl (.inl rfl) e3
  have b3 := hb2.seti 3 rfl e3
  have hk2' : KRw w' o' q a' c' (R.keys ++ [x]) := by
    unfold KRw
    rw [List.length_append, List.map_append]; exact hk2
  have s3 : Step (fun j => j = q) w' o' w3 (grow w' o') := Step.of_ext X3 s2.ok fun b hb _ => by subst hb; exact tg2
  refine ⟨s2.trans s3, ⟨⟨a', c', oa, oc, ol, ?_, ?_, ?_, hm, fun y hy => ((hx y hy).step s2).step s3⟩, by rw [s3.own hb2.lt]; exact tg2⟩⟩
  · have e : RS.V { R with keys := R.keys ++ [x] } k a' c' oa oc = [.pointer (some (blk k)), .int .i64 R.who, .int .u64 R.secret, .slice a' (R.keys.length + 1) c', .slice oa R.olds.length oc] := by unfold RS.V; rw [List.length_append]; rfl
    rw [e]; exact b3
  · exact hk2'.keep X3 (hk2'.ne hb2 (by decide)) fun b hb => s3.own hb
  · exact ho2.keep X3 (ho2.ne hb2 (by decide)) fun b hb => s3.own hb
theorem EG.pushOld (h : EG w o q k R) (ok : Tags w o) (hl : R.olds.length < 1000000) {x : BS} (hxk : BSk w o x) {qb : Nat} (hb : Blk w qb 29 [x.v]) {ka : Option Addr} {n kc : Nat} (hc : w.cell? ((blk q).add 4) = some (.slice ka n kc)) :
    ∃ a' n' c' w' o', (Builtin.append_ #[83, 83] 83 #[.slice ka n kc, .slice (some (blk qb)) 1 1]).run Try.prog w = .ok (.slice a' n' c') w' ∧ Step (fun j => j = q) w o w' o' ∧
      canStore w' ((blk q).add 4) ∧ ∀ w2, w2 = w'.setCell ((blk q).add 4) (.slice a' n' c') → Step (fun j => j = q) w o w2 (grow w' o') ∧ EG w2 (grow w' o') q k { R with olds := R.olds ++ [x.bs] } := by
  obtain ⟨⟨ka', kc', oa, oc, ol, hbk, hk1, ho, hm, hx⟩, tg⟩ := h
  have hol : ol.length = R.olds.length := by rw [← hm, List.length_map]
  have hc2 := hbk.cella (i := 4) (v := .slice oa R.olds.length oc) rfl
  rw [hc] at hc2
  cases hc2
  obtain ⟨i, hi, hz, hsz, hby⟩ := info_of inf29
  obtain ⟨a', c', w', o', hrun, s2, hk2, hk, _⟩ := Grows.push (ty := 83) Try.underlying83 hi hz hsz hby rfl (by decide) ho ok hbk.lt (xa := some (blk qb)) (m := 1) (xc := 1) (news := [x].map BS.v) rfl (RowAt.of_blk hb) bsv_ones (by omega) (by omega)
  rw [hol] at hrun
  have X2 : Ext (fun b => ∃ ad, ka = some ad ∧ b = ad.block) w w' := ⟨s2.ext.os, s2.ext.tape, s2.ext.output, s2.ext.size, fun b hb hn => hk b hb fun ad ha hb' => hn ⟨ad, ha, hb'⟩⟩
  have hb2 : Blk w' q 93 _ := hbk.ext X2 fun ⟨ad, h1, h2⟩ => ho.ne hbk (by decide) ad h1 h2.symm
  have hk1' : KRw w' o' q ka' kc' R.keys := hk1.keep X2 (fun ad ha ⟨ad', h1, h2⟩ => hk1.apart ho (by decide) ad ad' ha h1 h2) fun b hb => s2.own hb
  have tg2 : o' q = some q := by rw [s2.own hbk.lt]; exact tg
  refine ⟨a', _, c', w', o', hrun, s2, hb2.cana (i := 4) rfl, fun w3 e3 => ?_⟩
  have X3 : Ext (fun b => b = q) w' w3 := (Ext.refl (fun b => b = q) w').x_set (q := q) (i := 4) rfl (.inl rfl) e3
  have b3 := hb2.seti 4 rfl e3
  have hk2' : ORw w' o' q a' c' (ol ++ [x]) := by
    unfold ORw
    rw [List.length_append, List.map_append]; exact hk2
  have s3 : Step (fun j => j = q) w' o' w3 (grow w' o') := Step.of_ext X3 s2.ok fun b hb _ => by subst hb; exact tg2
  refine ⟨s2.trans s3, ⟨⟨ka', kc', a', c', ol ++ [x], ?_, ?_, ?_, by rw [List.map_append, hm]; rfl, fun y hy => ?_⟩, by rw [s3.own hb2.lt]; exact tg2⟩⟩
  · have e : RS.V { R with olds := R.olds ++ [x.bs] } k ka' kc' a' c' = [.pointer (some (blk k)), .int .i64 R.who, .int .u64 R.secret, .slice ka' R.keys.length kc', .slice a' (R.olds.length + 1) c'] := by unfold RS.V; rw [List.length_append]; rfl
    rw [e]; exact b3
  · exact hk1'.keep X3 (hk1'.ne hb2 (by decide)) fun b hb => s3.own hb
  · exact hk2'.keep X3 (hk2'.ne hb2 (by decide)) fun b hb => s3.own hb
  · rcases List.mem_append.1 hy with hy | hy
    · exact ((hx y hy).step s2).step s3
    · rw [List.mem_singleton.1 hy]; exact (hxk.step s2).step s3
theorem EG.key (h : EG w o q k R) {i : Nat} (hi : i < R.keys.length) : ∃ ka kc ad, w.cell? ((blk q).add 3) = some (.slice ka R.keys.length kc) ∧ ka = some ad ∧ w.cell? (ad.add (i * 1)) = some (.int .u64 (R.keys[i]?.getD 0)) := by
  obtain ⟨⟨ka, kc, oa, oc, ol, hbk, hk1, ho, hm, hx⟩, tg⟩ := h
  have hr := hk1.row
  have hg : (R.keys.map u64V)[i]? = some (u64V (R.keys[i]?.getD 0)) := by rw [List.getElem?_map, List.getElem?_eq_getElem hi]; rfl
  obtain ⟨ad, ha, hc⟩ := hr i _ hg
  exact ⟨ka, kc, ad, hbk.cella (i := 3) rfl, ha, by rw [Nat.mul_one]; exact hc⟩
theorem EG.old (h : EG w o q k R) {i : Nat} (hi : i < R.olds.length) : ∃ oa oc ad, ∃ x : BS, w.cell? ((blk q).add 4) = some (.slice oa R.olds.length oc) ∧ oa = some ad ∧ w.cell? (ad.add (i * 1)) = some (.slice x.a x.bs.length x.c) ∧ x.bs = R.olds[i]?.getD [] ∧ BSk w o x := by
  obtain ⟨⟨ka, kc, oa, oc, ol, hbk, hk1, ho, hm, hx⟩, tg⟩ := h
  have hol : ol.length = R.olds.length := by rw [← hm, List.length_map]
  have hr := ho.row
  have hil : i < ol.length := by omega
  have hg : (ol.map BS.v)[i]? = some (ol[i]).v := by rw [List.getElem?_map, List.getElem?_eq_getElem hil]; rfl
  obtain ⟨ad, ha, hc⟩ := hr i _ hg
  refine ⟨oa, oc, ad, ol[i], hbk.cella (i := 4) rfl, ha, by rw [Nat.mul_one]; exact hc, ?_, hx _ (List.getElem_mem hil)⟩
  rw [← hm, List.getElem?_map, List.getElem?_eq_getElem hil]; rfl
theorem EG.setKey (h : EG w o q k R) (ok : Tags w o) {i : Nat} (hi : i < R.keys.length) {ka : Option Addr} {n kc : Nat} (hc : w.cell? ((blk q).add 3) = some (.slice ka n kc)) {ad : Addr} (ha : ka = some ad) (v : Int) :
    canStore w (ad.add (i * 1)) ∧ ∀ w2, w2 = w.setCell (ad.add (i * 1)) (.int .u64 v) → ∃ o2, Step (fun j => j = q) w o w2 o2 ∧ EG w2 o2 q k { R with keys := R.keys.set i v } := by
  obtain ⟨⟨ka', kc', oa, oc, ol, hbk, hk1, ho, hm, hx⟩, tg⟩ := h
  have hc2 := hbk.cella (i := 3) (v := .slice ka' R.keys.length kc') rfl
  rw [hc] at hc2
  cases hc2
  have hne : R.keys.map u64V ≠ [] := fun e => by
    have := congrArg List.length e
    rw [List.length_map] at this
    simp at this; rw [this] at hi; simp at hi
  obtain ⟨b, cur, ha2, hb, hle, hob, hbl, hput⟩ := Grows.put (j := i) (vs := [.int .u64 v]) hk1 ok hne
  rw [ha] at ha2
  cases ha2
  rw [List.length_map] at hle
  rw [Nat.mul_one]
  refine ⟨hb.cana (List.getElem?_eq_getElem (by omega)), fun w3 e3 => ?_⟩
  rw [add_blk] at e3
  have X3 : Ext (fun q => q = b) w w3 := (Ext.refl (fun q => q = b) w).x_set (q := b) (i := i) rfl (.inl rfl) e3
  have b3 := hb.seti i (v := .int .u64 v) rfl e3
  obtain ⟨s3, h3⟩ := hput w3 X3 b3
  have hset : setAll (R.keys.map u64V) i [.int .u64 v] = (R.keys.set i v).map u64V := by
    show (R.keys.map u64V).set i _ = _
    rw [List.map_set]; rfl
  refine ⟨_, s3, ⟨⟨some (blk b), kc, oa, oc, ol, ?_, ?_, ?_, hm, fun y hy => (hx y hy).step s3⟩, by rw [s3.own hbk.lt]; exact tg⟩⟩
  · have hgb : q ≠ b := fun e => hk1.ne hbk (by decide) _ ha (by rw [e])
    have e : RS.V { R with keys := R.keys.set i v } k (some (blk b)) kc oa oc = RS.V R k (some (blk b)) kc oa oc := by unfold RS.V; rw [List.length_set]
    rw [e, ← ha]; exact hbk.ext X3 hgb
  · unfold KRw
    rw [← hset, List.length_set, ← ha]
    exact h3
  · exact ho.keep X3 (fun ad' ha' h2 => ho.apart hk1 (by decide) ad' (blk b) ha' ha h2) fun b hb => s3.own hb
theorem EG.who (h : EG w o q k R) : w.cell? ((blk q).add 1) = some (.int .i64 R.who) := by
  obtain ⟨⟨ka, kc, oa, oc, ol, hbk, _⟩, tg⟩ := h
  exact hbk.cella (i := 1) rfl
theorem EG.secret (h : EG w o q k R) : w.cell? ((blk q).add 2) = some (.int .u64 R.secret) := by
  obtain ⟨⟨ka, kc, oa, oc, ol, hbk, _⟩, tg⟩ := h
  exact hbk.cella (i := 2) rfl
theorem EG.orc (h : EG w o q k R) : w.cell? ((blk q).add 0) = some (.pointer (some (blk k))) := by
  obtain ⟨⟨ka, kc, oa, oc, ol, hbk, _⟩, tg⟩ := h
  exact hbk.cella (i := 0) rfl
theorem EG.keysC (h : EG w o q k R) : ∃ ka kc, w.cell? ((blk q).add 3) = some (.slice ka R.keys.length kc) := by
  obtain ⟨⟨ka, kc, oa, oc, ol, hbk, _⟩, tg⟩ := h
  exact ⟨ka, kc, hbk.cella (i := 3) rfl⟩
theorem EG.oldsC (h : EG w o q k R) : ∃ ka kc, w.cell? ((blk q).add 4) = some (.slice ka R.olds.length kc) := by
  obtain ⟨⟨ka, kc, oa, oc, ol, hbk, _⟩, tg⟩ := h
  exact ⟨oa, oc, hbk.cella (i := 4) rfl⟩
def keyK (R : RS) (e : Int) : Int × Int := if e < 0 ∨ (R.keys.length : Int) ≤ e then (0, 2) else if R.keys[e.toNat]?.getD 0 = 0 then (0, 11) else (R.keys[e.toNat]?.getD 0, 0)
theorem gKey_spec (h : EG w o q k R) (e : Int) : Calls Try.prog 8 #[.pointer (some (blk q)), .int .i64 e] w (Ret (.tuple #[.int .u64 (keyK R e).1, .int .i64 (keyK R e).2]) fun w' => w' = w) := by
  refine epochs_Ring_Key.run _ _ ?_
  unfold epochs_Ring_Key.N
  refine ⟨fun h => (by cases h), fun _ => ⟨fun h0 => ?_, fun h0 => ?_⟩⟩
  · unfold keyK; rw [if_pos (.inl h0)]; exact ⟨rfl, rfl⟩
  obtain ⟨ka, kc, hc⟩ := h.keysC
  refine ⟨_, rfl, _, _, _, hc, fun h1 => ?_, fun h1 => ?_⟩
  · unfold keyK; rw [if_pos (.inr h1)]; exact ⟨rfl, rfl⟩
  obtain ⟨i, rfl⟩ := Int.eq_ofNat_of_zero_le h0
  obtain ⟨ka2, kc2, ad, hc2, ha, hv⟩ := h.key (i := i) (by omega)
  have hk : keyK R (i : Int) = if R.keys[i]?.getD 0 = 0 then (0, 11) else (R.keys[i]?.getD 0, 0) := by unfold keyK; rw [if_neg (by omega)]; rfl
  refine ⟨_, _, _, hc2, ad, ha, by omega, by omega, _, by rw [Int.toNat_natCast]; exact hv, fun hz => ?_, fun hz => ?_⟩
  · rw [hk, if_pos hz]; exact ⟨rfl, rfl⟩
  · rw [hk, if_neg hz]
    exact ⟨_, _, _, hc2, ad, ha, by omega, by omega, _, by rw [Int.toNat_natCast]; exact hv, rfl, rfl⟩
theorem gCount_spec (h : EG w o q k R) : Calls Try.prog 21 #[.pointer (some (blk q))] w (Ret (.int .i64 R.keys.length) fun w' => w' = w) := by
  refine epochs_Ring_Count.run _ ?_
  unfold epochs_Ring_Count.N
  obtain ⟨ka, kc, hc⟩ := h.keysC
  exact ⟨fun h => (by cases h), fun _ => ⟨_, rfl, _, _, _, hc, rfl, rfl⟩⟩
theorem rNew_spec13 (ok : Tags w o) {who secret : Int} (h0 : 0 ≤ who) (h1 : who < 8) (k : Nat) : Calls Try.prog 19 #[.pointer (some (blk k)), .int .i64 who, .int .u64 secret] w (fun x w' => ∃ q o', x = .returned (.tuple #[.pointer (some (blk q)), .int .i64 0]) ∧ w.heap.size ≤ q ∧ Step no w o w' o' ∧ EG w' o' q k ⟨who, secret, [], []⟩) := by
  refine (epochs_New.go _ _ _ (R := fun v w' => ∃ q o', v = (.tuple #[.pointer (some (blk q)), .int .i64 0]) ∧ w.heap.size ≤ q ∧ Step no w o w' o' ∧ EG w' o' q k ⟨who, secret, [], []⟩) ?_).mono fun x w' ⟨v, he, q, o', hv, hw⟩ => ⟨q, o', by rw [he, hv], hw⟩
  unfold epochs_New.N
  refine ⟨fun h => absurd h (by omega), fun _ => ⟨fun h => absurd h (by omega), fun _ => ⟨fun h => (by cases h), fun _ w7 q8 X7 hb hq hq' => ?_⟩⟩⟩
  have s := (Step.of_no X7 ok).tag hq hq'
  exact ⟨q8, _, rfl, hq, s, ⟨none, 0, none, 0, [], hb, Grows.nil _ _ _ _ _, Grows.nil _ _ _ _ _, rfl, fun x h => (by cases h)⟩, tag_self⟩
end
end Go.Proofs.Ytaifegpikhjiiaa

/- Epochs: back, and Learn. -/
set_option linter.unusedVariables false
set_option linter.unusedSimpArgs false
set_option maxRecDepth 20000
set_option maxHeartbeats 4000000
namespace Go.Proofs.Ytaifegpikhjiiaa
open Go Go.Mx Go.Proofs
open W (OwnB GivesW)
def tells (S : OS) (olds : List (List UInt8)) (e : Nat) (ks : List Int) : Prop :=
  (ks[e + 1]?.getD 0 ≠ 0 ∧ ks[e]?.getD 0 = 0) ∧ (openOf S (ks[e + 1]?.getD 0) (boundL ((e + 1 : Nat) : Int)) (olds[e + 1]?.getD [])).2 = 0 ∧ (openOf S (ks[e + 1]?.getD 0) (boundL ((e + 1 : Nat) : Int)) (olds[e + 1]?.getD [])).1.length = 8
instance (S : OS) (olds : List (List UInt8)) (e : Nat) (ks : List Int) : Decidable (tells S olds e ks) := by unfold tells; infer_instance
def backK (S : OS) (olds : List (List UInt8)) : Nat → List Int → List Int
  | 0, ks => ks
  | e + 1, ks => if tells S olds e ks then backK S olds e (ks.set e (valOf (openOf S (ks[e + 1]?.getD 0) (boundL ((e + 1 : Nat) : Int)) (olds[e + 1]?.getD [])).1)) else ks
def Short (S : OS) : Prop := ∀ x s, alook S.sealed x = some s → s.plain.length ≤ 1000000
section
variable {w w' w1 : World} {o o' o1 : Own} {q k p N m : Nat} {K : Nat → Prop} {R : RS} {S : OS} {b : List UInt8} {a : Option Addr} {c : Nat}
theorem back_spec (h : EG w o q k R) (hP : POrc w o k S) (ok : Tags w o) (hqk : q ≠ k) (hS : Short S) (hl : R.keys.length = R.olds.length) (h0 : 0 < R.keys.length) (h1 : R.keys.length < 1000000) (hol : ∀ b ∈ R.olds, b.length < 1000000) :
    Calls Try.prog 41 #[.pointer (some (blk q))] w (fun x w' => x = .returned (.tuple #[]) ∧ ∃ o', Step (fun j => j = q) w o w' o' ∧ EG w' o' q k { R with keys := backK S R.olds (R.keys.length - 1) R.keys }) := by
  refine (epochs_Ring_back.go _ (R := fun v w' => v = .tuple #[] ∧ ∃ o', Step (fun j => j = q) w o w' o' ∧ EG w' o' q k { R with keys := backK S R.olds (R.keys.length - 1) R.keys }) ?_).mono fun x w' ⟨v, he, hv, hw⟩ => ⟨by rw [he, hv], hw⟩
  unfold epochs_Ring_back.N
  obtain ⟨ka0, kc0, hc0⟩ := h.keysC
  have hkq : ¬ k = q := fun e => hqk e.symm
  refine ⟨_, rfl, _, _, _, hc0, by omega, by omega, ?_⟩
  refine ⟨fun m vs w1 => ∃ (e : Nat) (o1 : Own) (ks : List Int), vs = [.int .i64 e] ∧ m = e ∧ e < R.keys.length ∧ ks.length = R.keys.length ∧ Step (fun j => j = q) w o w1 o1 ∧ EG w1 o1 q k { R with keys := ks } ∧ backK S R.olds e ks = backK S R.olds (R.keys.length - 1) R.keys,
    R.keys.length - 1, ⟨R.keys.length - 1, o, R.keys, by congr 2; omega, rfl, by omega, rfl, Step.refl _ ok, h, rfl⟩, ?_⟩
  rintro m w8 i ⟨e, o8, ks, hi, hm, hel, hks, s8, E8, hB⟩
  simp only [List.cons.injEq, Value.int.injEq, true_and, and_true] at hi
  subst hi
  subst hm
  have fin : ∀ (w9 : World) (o9 : Own), backK S R.olds m ks = ks → Step (fun j => j = q) w8 o8 w9 o9 → EG w9 o9 q k { R with keys := ks } → Value.tuple #[] = .tuple #[] ∧ ∃ o', Step (fun j => j = q) w o w9 o' ∧ EG w9 o' q k { R with keys := backK S R.olds (R.keys.length - 1) R.keys } := fun w9 o9 hz s9 E9 => ⟨rfl, o9, s8.trans s9, by rw [← hB, hz]; exact E9⟩
  refine ⟨fun hgt => ?_, fun hle => ?_⟩
  rotate_left
  · have : m = 0 := by omega
    subst this
    exact fin w8 o8 rfl (Step.refl _ s8.ok) E8
  obtain ⟨e, rfl⟩ : ∃ e, m = e + 1 := ⟨m - 1, by omega⟩
  obtain ⟨ka1, kc1, ad1, c1, ha1, v1⟩ := E8.key (i := e + 1) (by show e + 1 < ks.length; omega)
  obtain ⟨ka2, kc2, ad2, c2, ha2, v2⟩ := E8.key (i := e) (by show e < ks.length; omega)
  have hr : c1 = c1 := rfl
  have v1 : w8.cell? (ad1.add ((e + 1) * 1)) = some (.int .u64 (ks[e + 1]?.getD 0)) := v1
  have v2 : w8.cell? (ad2.add (e * 1)) = some (.int .u64 (ks[e]?.getD 0)) := v2
  have ti : ∀ n : Nat, Int.toNat (n : Int) = n := Int.toNat_natCast
  have tj : Int.toNat (((e + 1 : Nat) : Int) - 1) = e := by omega
  refine ⟨_, _, _, c1, ad1, ha1, by omega, by show ((e + 1 : Nat) : Int) < (ks.length : Int); omega, _, by rw [ti]; exact v1, fun hn1 => ?_, fun hz1 => ?_⟩
  rotate_left
  · exact fin w8 o8 (by unfold backK; rw [if_neg (fun h => h.1.1 hz1)]) (Step.refl _ s8.ok) E8
  refine ⟨_, _, _, c2, by omega, by omega, ad2, ha2, by omega, by show ((e + 1 : Nat) : Int) - 1 < (ks.length : Int); omega, _, by rw [tj]; exact v2, fun hz2 => ?_, fun hn2 => ?_⟩
  rotate_left
  · exact fin w8 o8 (by unfold backK; rw [if_neg (fun h => hn2 h.1.2)]) (Step.refl _ s8.ok) E8
  obtain ⟨oa, oc, ad3, x, c3, ha3, v3, hx, hxk⟩ := E8.old (i := e + 1) (by show e + 1 < R.olds.length; omega)
  have hx : x.bs = R.olds[e + 1]?.getD [] := hx
  refine ⟨_, E8.orc, _, _, _, c1, ad1, ha1, by omega, by show ((e + 1 : Nat) : Int) < (ks.length : Int); omega, _, by rw [ti]; exact v1, _, _, _, c3, ad3, ha3, by omega, by show ((e + 1 : Nat) : Int) < (R.olds.length : Int); omega, _, _, _, by rw [ti]; exact v3, fun w22 X22 => ?_⟩
  refine (bound_spec (e := ((e + 1 : Nat) : Int)) (by omega) (by omega) w22).mono fun u w37 ⟨ba, bc, he, hO, X37⟩ => ⟨_, _, _, he, ?_⟩
  have X := X22.trans X37
  have s37 := Step.of_no X s8.ok
  have hP37 := (hP.step s8 hkq).step s37 id
  refine ⟨by rw [ti]; exact X.cell v3 id, X.cell c3 id, by rw [ti]; exact X.cell v1 id, X.cell c1 id, X.cell E8.orc id, ?_⟩
  have hxk37 := hxk.step s37
  have hxl : x.bs.length < 1000000 := by
    rw [hx, List.getElem?_eq_getElem (by omega)]
    exact hol _ (List.getElem_mem _)
  have op := OpenO hP37 s37.ok (ks[e + 1]?.getD 0) (ba := ba) (bc := bc) (b := boundL ((e + 1 : Nat) : Int)) hO.row hxk37.1.1 hxl hxk37.2 (fun s hs => hS _ s hs)
  obtain ⟨r, hr⟩ : ∃ r, openOf S (ks[e + 1]?.getD 0) (boundL ((e + 1 : Nat) : Int)) x.bs = r := ⟨_, rfl⟩
  rw [hr] at op
  rw [hx] at hr
  have E37 := E8.step s37 id
  refine Calls.mono op fun u w46 ⟨o46, pa, pc, he, s46, pr, hpc, _⟩ => ⟨_, _, _, _, he, fun hne => ?_, fun hz => ⟨fun hn8 => ?_, fun h8 => ?_⟩⟩
  · exact fin w46 o46 (by unfold backK; rw [if_neg (fun h => hne (by have := h.2.1; rw [hr] at this; exact this))]) (s37.none.trans s46.none) (E37.step s46 id)
  · exact fin w46 o46 (by unfold backK; rw [if_neg (fun h => hn8 (by have := h.2.2; rw [hr] at this; omega))]) (s37.none.trans s46.none) (E37.step s46 id)
  have ht : tells S R.olds e ks := ⟨⟨hn1, hz2⟩, by rw [hr]; exact hz, by rw [hr]; omega⟩
  have hlen : r.1.length = 8 := by omega
  have E46 := E37.step s46 id
  have s46' : Step (fun j => j = q) w8 o8 w46 o46 := s37.none.trans s46.none
  refine ⟨fun m2 vs w1 => ∃ (t : Nat) (o1 : Own), vs = [.int .i64 t] ∧ m2 + t = 8 ∧ Step (fun j => j = q) w46 o46 w1 o1 ∧ EG w1 o1 q k { R with keys := ks.set e (valOf (r.1.take t)) }, 8, ⟨0, o46, rfl, rfl, Step.refl _ s46.ok, ?_⟩, ?_⟩
  · have : ks.set e (valOf (r.1.take 0)) = ks := by
      have hz : (valOf (r.1.take 0) : Int) = ks[e]?.getD 0 := by rw [hz2]; rfl
      rw [hz, List.getElem?_eq_getElem (by omega)]
      exact List.set_getElem_self (by omega)
    rw [this]; exact E46
  rintro m2 w52 i2 ⟨t, o52, hi2, hm2, s52, E52⟩
  simp only [List.cons.injEq, Value.int.injEq, true_and, and_true] at hi2
  subst hi2
  refine ⟨fun htl => ?_, fun htl => ?_⟩
  · have ht8 : t < 8 := by omega
    have pr52 := (pr.step s52).1
    have hg : (bytesV r.1)[t]? = some (.int .u8 ((r.1[t]'(by omega)).toNat : Int)) := bytesV_get (by omega)
    obtain ⟨pad, hpad, hpc2⟩ := pr52 t _ hg
    obtain ⟨ka4, kc4, ad4, c4, ha4, v4⟩ := E52.key (i := e) (by show e < (ks.set e _).length; rw [List.length_set]; omega)
    have hk4 : (ks.set e ((valOf (r.1.take t) : Nat) : Int))[e]?.getD 0 = ((valOf (r.1.take t) : Nat) : Int) := by rw [List.getElem?_set_self (by omega)]; rfl
    have v4 : w52.cell? (ad4.add (e * 1)) = some (.int .u64 ((ks.set e ((valOf (r.1.take t) : Nat) : Int))[e]?.getD 0)) := v4
    rw [hk4] at v4
    have hll : ((ks.set e ((valOf (r.1.take t) : Nat) : Int)).length : Int) = ks.length := by rw [List.length_set]
    refine ⟨pad, hpad, by omega, by omega, _, by rw [ti, Nat.mul_one]; exact hpc2, _, _, _, c4, by omega, by omega, _, _, _, c4, by omega, by omega, ad4, ha4, by omega, by show ((e + 1 : Nat) : Int) - 1 < _; rw [hll]; omega, _, by rw [tj]; exact v4, ad4, ha4, by omega, by show ((e + 1 : Nat) : Int) - 1 < _; rw [hll]; omega, fun w57 X57 => ?_⟩
    have s57 := Step.of_no X57 s52.ok
    have E57 := E52.step s57 id
    have hlt := valOf_lt t (r.1.take t) (by simp; omega)
    have hlt2 : valOf (r.1.take t) < 2 ^ 56 := by
      refine Nat.lt_of_lt_of_le hlt ?_
      exact Nat.le_trans (Nat.pow_le_pow_right (by decide) (by omega : t ≤ 7)) (by decide)
    have hxx := u8_lt (r.1[t]'(by omega))
    have hval : IntKind.u64.wrap ((BitVec.ofInt (IntKind.bits .u64) (IntKind.u64.wrap (((valOf (r.1.take t) : Nat) : Int) * 256)) ||| BitVec.ofInt (IntKind.bits .u64) (IntKind.u64.wrap ((r.1[t]'(by omega)).toNat : Int))).toNat) = ((valOf (r.1.take (t + 1)) : Nat) : Int) := by
      rw [show (256 : Int) = 2 ^ min (Int.toNat 8) (IntKind.bits .u64) from rfl, or_byte hlt2 hxx, wu64 (by omega) (by omega), List.take_add_one, show r.1[t]?.toList = [r.1[t]'(by omega)] by simp [show t < r.1.length by omega], valOf_snoc]
    rw [add_add, Nat.add_zero, tj, hval]
    obtain ⟨hcan, hset⟩ := E57.setKey s57.ok (i := e) (by show e < (ks.set e _).length; rw [List.length_set]; omega) (X57.cell c4 id) ha4 ((valOf (r.1.take (t + 1)) : Nat) : Int)
    refine ⟨hcan, thenW_in fun w66 e66 => ?_⟩
    obtain ⟨o66, s66, E66⟩ := hset w66 e66
    refine ⟨by omega, by omega, m2 - 1, by omega, t + 1, o66, rfl, by omega, (s52.trans s57.none).trans s66, ?_⟩
    have hss : (ks.set e ((valOf (r.1.take t) : Nat) : Int)).set e ((valOf (r.1.take (t + 1)) : Nat) : Int) = ks.set e ((valOf (r.1.take (t + 1)) : Nat) : Int) := by rw [List.set_set]
    have E66 : EG w66 o66 q k { R with keys := (ks.set e ((valOf (r.1.take t) : Nat) : Int)).set e ((valOf (r.1.take (t + 1)) : Nat) : Int) } := E66
    rw [hss] at E66
    exact E66
  · have ht8 : t = 8 := by omega
    subst ht8
    rw [List.take_of_length_le (by omega)] at E52
    refine ⟨by omega, by omega, e, by omega, e, o52, ks.set e (valOf r.1), by congr 2; omega, rfl, by omega, by rw [List.length_set]; exact hks, (s8.trans s46').trans s52, E52, ?_⟩
    rw [← hB]
    show _ = (if tells S R.olds e ks then _ else _)
    rw [if_pos ht, hr]
end
end Go.Proofs.Ytaifegpikhjiiaa

/- Epochs: Learn. -/
set_option linter.unusedVariables false
set_option linter.unusedSimpArgs false
set_option maxRecDepth 20000
set_option maxHeartbeats 4000000
namespace Go.Proofs.Ytaifegpikhjiiaa
open Go Go.Mx Go.Proofs
open W (OwnB GivesW)
structure CH (w : World) (o : Own) (cg : Chg) (wa : Option Addr) (wc : Nat) (l : List Wr) (oa : Option Addr) (oc : Nat) : Prop where
  ws : Row w o wa (l.flatMap Wr.C)
  m : l.map Wr.p = cg.ws
  bs : ∀ x ∈ l, Row w o x.a (bytesV x.b) ∧ x.b.length ≤ x.c ∧ x.b.length < 1000000
  old : Row w o oa (bytesV cg.old)
  ol : cg.old.length < 1000000
  n : l.length < 1000000
theorem CH.step {K : Nat → Prop} {w w' : World} {o o' : Own} {cg : Chg} {wa oa : Option Addr} {wc oc : Nat} {l : List Wr} (h : CH w o cg wa wc l oa oc) (s : Step K w o w' o') : CH w' o' cg wa wc l oa oc :=
  ⟨h.ws.step s, h.m, fun x hx => ⟨(h.bs x hx).1.step s, (h.bs x hx).2⟩, h.old.step s, h.ol, h.n⟩
def idxW (l : List Wr) (n : Int) : Int := match l.findIdx? (fun x => x.who == n) with | some i => i | none => -1
def toldBy (S : OS) (R : RS) (c : Chg) : Int × Int := match c.ws.find? (fun p => p.1 == R.who) with | some p => unwrapOf S R.secret p.2 | none => (0, 11)
def learnK (S : OS) (R : RS) (c : Chg) : RS × Int :=
  if c.kd ≠ 3 ∨ rightM c = false then (R, 1)
  else if 20 ≤ R.keys.length then (R, 3)
  else ({ R with keys := backK S (R.olds ++ [c.old]) R.keys.length (R.keys ++ [(toldBy S R c).1]), olds := R.olds ++ [c.old] }, (toldBy S R c).2)
theorem free_keep {K : Nat → Prop} {w w' : World} {o o' : Own} {b : Nat} {t : TypeId} {cs : List Value} (h : Blk w b t cs ∧ o b = none) (s : Step K w o w' o') : Blk w' b t cs ∧ o' b = none :=
  ⟨h.1.ext s.ext (fun ⟨k, h1, _⟩ => by rw [h.2] at h1; cases h1), by rw [s.own h.1.lt]; exact h.2⟩
theorem idxW_cases (l : List Wr) (n : Int) : (∃ (i : Nat) (x : Wr), l[i]? = some x ∧ x.who = n ∧ idxW l n = (i : Int) ∧ (l.map Wr.p).find? (fun p => p.1 == n) = some x.p) ∨ (idxW l n = -1 ∧ (l.map Wr.p).find? (fun p => p.1 == n) = none) := by
  unfold idxW
  induction l with
  | nil => exact .inr ⟨rfl, rfl⟩
  | cons y r ih =>
    rw [List.findIdx?_cons, List.map_cons, List.find?_cons]
    by_cases hy : (y.who == n) = true
    · have hp : (y.p.1 == n) = true := hy
      rw [if_pos hy, hp]
      exact .inl ⟨0, y, rfl, by simpa using hy, rfl, rfl⟩
    · have hp : (y.p.1 == n) = false := by show (y.who == n) = false; simpa using hy
      rw [if_neg hy, hp]
      rcases ih with ⟨i, x, h1, h2, h3, h4⟩ | ⟨h3, h4⟩
      · cases hf : r.findIdx? (fun x => x.who == n) with
        | none => rw [hf] at h3; exact absurd h3 (by show ¬ (-1 : Int) = _; omega)
        | some j =>
          rw [hf] at h3
          have : j = i := by have h3 : (j : Int) = i := h3; omega
          subst this
          exact .inl ⟨j + 1, x, h1, h2, rfl, h4⟩
      · cases hf : r.findIdx? (fun x => x.who == n) with
        | none => exact .inr ⟨rfl, h4⟩
        | some j => rw [hf] at h3; have h3 : (j : Int) = -1 := h3; omega
section
variable {w w' w1 : World} {o o' o1 : Own} {q k p N m : Nat} {K : Nat → Prop} {R : RS} {S : OS} {b : List UInt8} {a : Option Addr} {c : Nat} {l : List Wr} {cg : Chg} {wa oa : Option Addr} {wc oc : Nat}
theorem mine_spec {qc : Nat} (h : EG w o q k R) (hq : w.cell? (blk qc) = some (.pointer (some (blk q)))) (x : Wr) :
    Calls Try.prog 38 #[.agg #[.int .i64 x.who, .slice x.a x.b.length x.c], .pointer (some (blk qc))] w (Ret (.bool (x.who == R.who)) fun w' => Ext no w w') := by
  refine epochs_Ring_Learn_1.run _ _ _ _ _ ?_
  unfold epochs_Ring_Learn_1.N
  exact ⟨_, hq, _, rfl, _, h.who, fun w5 X5 => ⟨rfl, X5⟩⟩
theorem index_spec {qc : Nat} (h : EG w o q k R) (hq : Blk w qc 34 [.pointer (some (blk q))]) (ok : Tags w o) (hr : RowAt w wa (l.flatMap Wr.C)) (hl : l.length < 1000000) :
    Calls Try.prog 39 #[.slice wa l.length wc, .func (.func 38) #[] #[.pointer (some (blk qc))]] w (Ret (.int .i64 (idxW l R.who)) fun w' => Ext no w w') := by
  refine slices_IndexFunc_members_Wrap_members_Wrap.run _ _ _ _ _ _ ?_
  unfold slices_IndexFunc_members_Wrap_members_Wrap.N
  refine ⟨fun m vs w1 => ∃ t : Nat, vs = [.int .i64 t] ∧ m + t = l.length ∧ Ext no w w1 ∧ ∀ i x, i < t → l[i]? = some x → (x.who == R.who) = false, l.length, ⟨0, rfl, rfl, Ext.refl _ _, fun i x h => absurd h (by omega)⟩, ?_⟩
  rintro m w6 i ⟨t, hi, hm, X6, hn⟩
  simp only [List.cons.injEq, Value.int.injEq, true_and, and_true] at hi
  subst hi
  refine ⟨fun ht => ?_, fun ht => ?_⟩
  · have htl : t < l.length := by omega
    have hg : l[t]? = some l[t] := List.getElem?_eq_getElem htl
    generalize l[t] = x at *
    have hr6 := hr.no X6
    obtain ⟨ad, rfl⟩ := hr6.faddr Wr.len (by decide) htl
    have s6 := Step.of_no X6 ok
    refine ⟨ad, rfl, by omega, by omega, x.who, x.a, x.b.length, x.c, by rw [Int.toNat_natCast]; exact hr6.floads Wr.len hg, by kernel_rfl, ?_⟩
    refine Calls.mono (mine_spec (h.step s6 id) ((hq.ext X6 id).cella (i := 0) rfl) x) fun u w14 ⟨he, X14⟩ => ⟨_, he, fun hy => ?_, fun hno => ⟨by omega, by omega, m - 1, by omega, t + 1, rfl, by omega, X6.trans X14, fun i y hi hy => ?_⟩⟩
    · have : idxW l R.who = (t : Int) := by
        unfold idxW
        have hf : l.findIdx? (fun x => x.who == R.who) = some t := by
          rw [List.findIdx?_eq_some_iff_getElem]
          refine ⟨htl, ?_, fun j hj => ?_⟩
          · rw [List.getElem?_eq_getElem htl] at hg
            rw [Option.some.inj hg]; exact hy
          · rw [hn j _ hj (List.getElem?_eq_getElem (by omega))]; decide
        rw [hf]
      rw [this]
      exact ⟨rfl, X6.trans X14⟩
    · by_cases hit : i = t
      · subst hit
        rw [hg] at hy
        cases hy
        exact hno
      · exact hn i y (by omega) hy
  · have : idxW l R.who = -1 := by
      unfold idxW
      have hf : l.findIdx? (fun x => x.who == R.who) = none := by
        rw [List.findIdx?_eq_none_iff]
        intro y hy
        obtain ⟨i, hi⟩ := List.mem_iff_getElem?.1 hy
        exact hn i y (by have := (List.getElem?_eq_some_iff.1 hi).1; omega) hi
      rw [hf]
    rw [this]
    exact ⟨rfl, X6⟩
theorem learn_tail {Φ : World → Prop} {qc pp : Nat} {x v : Int} (h : EG w o q k R) (hP : POrc w o k S) (ok : Tags w o) (hqk : q ≠ k) (hS : Short S) (hl : R.keys.length = R.olds.length) (h1 : R.keys.length < 1000) (hol : ∀ b ∈ R.olds, b.length < 1000000)
    (hq : Blk w qc 34 [.pointer (some (blk q))] ∧ o qc = none) (M : Mine [pp] w o) (hpq : pp ≠ q) (hold : Row w o oa (bytesV b)) (hb : b.length < 1000000) (hv : x = v)
    (hΦ : ∀ w' o', Step (fun j => j = q) w o w' o' → EG w' o' q k { R with keys := backK S (R.olds ++ [b]) R.keys.length (R.keys ++ [x]), olds := R.olds ++ [b] } → Φ w') :
    ∃ (x52 : Option Addr), w.cell? (blk qc) = some (.pointer x52) ∧
    ∃ (x54 : Option Addr), w.cell? (blk qc) = some (.pointer x54) ∧
    ∃ a55 : Addr, x54 = some a55 ∧
    ∃ (keys57a : Option Addr) (keys57n : Nat) (keys57c : Nat), w.cell? (a55.add 3) = some (.slice keys57a keys57n keys57c) ∧
    ∀ (ww58 : World) (q59 : Nat), Ext no w ww58 → Blk ww58 q59 27 [.int .u64 v] → w.heap.size ≤ q59 → q59 < ww58.heap.size →
    ww58.cell? (a55.add 3) = some (.slice keys57a keys57n keys57c) ∧
    ww58.cell? (blk qc) = some (.pointer x54) ∧
    ww58.cell? (blk qc) = some (.pointer x52) ∧
    ∃ (a63a : Option Addr) (a63n : Nat) (a63c : Nat) (ww64 : World), (Builtin.append_ #[22, 22] 22 #[.slice keys57a keys57n keys57c, .slice (some (blk q59)) 1 1]).run Try.prog ww58 = .ok (.slice a63a a63n a63c) ww64 ∧
    Keep [pp] ww58 ww64 ∧
    ww64.cell? (blk qc) = some (.pointer x52) ∧
    ∃ a66 : Addr, x52 = some a66 ∧
    canStore ww64 ((a66.add 3).add 0) ∧
    (∀ p ∈ [pp], p ≠ Addr.block (a66.add 3)) ∧
    thenW (ww64.setCell ((a66.add 3).add 0) (.slice a63a a63n a63c)) fun ww67 =>
    ∃ (x70 : Option Addr), ww67.cell? (blk qc) = some (.pointer x70) ∧
    ∃ (x72 : Option Addr), ww67.cell? (blk qc) = some (.pointer x72) ∧
    ∃ a73 : Addr, x72 = some a73 ∧
    ∃ (olds75a : Option Addr) (olds75n : Nat) (olds75c : Nat), ww67.cell? (a73.add 4) = some (.slice olds75a olds75n olds75c) ∧
    ∀ (ww68 : World), Ext no ww67 ww68 →
    Calls Try.prog 40 #[.slice oa b.length oc] ww68 fun ee77 ww78 => ∃ (clone76a : Option Addr) (clone76n : Nat) (clone76c : Nat), ee77 = .returned (.slice clone76a clone76n clone76c) ∧
    ww78.cell? (a73.add 4) = some (.slice olds75a olds75n olds75c) ∧
    ww78.cell? (blk qc) = some (.pointer x72) ∧
    ww78.cell? (blk qc) = some (.pointer x70) ∧
    ∀ (ww82 : World) (q83 : Nat), Ext no ww78 ww82 → Blk ww82 q83 29 [.slice clone76a clone76n clone76c] → ww78.heap.size ≤ q83 → q83 < ww82.heap.size →
    ww82.cell? (a73.add 4) = some (.slice olds75a olds75n olds75c) ∧
    ww82.cell? (blk qc) = some (.pointer x72) ∧
    ww82.cell? (blk qc) = some (.pointer x70) ∧
    ∃ (a87a : Option Addr) (a87n : Nat) (a87c : Nat) (ww88 : World), (Builtin.append_ #[83, 83] 83 #[.slice olds75a olds75n olds75c, .slice (some (blk q83)) 1 1]).run Try.prog ww82 = .ok (.slice a87a a87n a87c) ww88 ∧
    ww88.cell? (blk qc) = some (.pointer x70) ∧
    ∃ a90 : Addr, x70 = some a90 ∧
    canStore ww88 ((a90.add 4).add 0) ∧
    thenW (ww88.setCell ((a90.add 4).add 0) (.slice a87a a87n a87c)) fun ww91 =>
    ∃ (x93 : Option Addr), ww91.cell? (blk qc) = some (.pointer x93) ∧
    Calls Try.prog 41 #[.pointer x93] ww91 fun ee94 ww95 => ee94 = .returned (.tuple #[]) ∧
    Φ ww95 := by
  subst hv
  obtain ⟨ka, kc, hc3⟩ := h.keysC
  have cq : ∀ {w' : World} {o' : Own} {K : Nat → Prop}, Step K w o w' o' → w'.cell? (blk qc) = some (.pointer (some (blk q))) := fun s => (free_keep hq s).1.cella (i := 0) rfl
  have cq0 := cq (Step.refl no ok)
  have hkq : ¬ k = q := fun e => hqk e.symm
  refine ⟨_, cq0, _, cq0, _, rfl, _, _, _, hc3, fun w58 q59 X58 b58 hq59 hq59' => ?_⟩
  have s58 := Step.of_no X58 ok
  have h58 := h.step s58 id
  refine ⟨X58.cell hc3 id, cq s58, cq s58, ?_⟩
  obtain ⟨a6, n6, c6, w64, o64, hrun, s64, hcan, hst⟩ := h58.pushKey s58.ok (by omega) x b58 (X58.cell hc3 id)
  have s64' := s58.none.trans s64
  refine ⟨a6, n6, c6, w64, hrun, (M.step s58).keep s64 (fun p hp => by rw [List.mem_singleton.1 hp]; exact hpq), cq s64', _, rfl, ?_⟩
  have a30 : ((blk q).add 3).add 0 = (blk q).add 3 := by rw [add_add]
  rw [a30]
  refine ⟨hcan, fun p hp => by rw [List.mem_singleton.1 hp, block_add]; exact hpq, thenW_in fun w67 e67 => ?_⟩
  obtain ⟨s67, E67⟩ := hst w67 e67
  have s67' := s58.none.trans s67
  obtain ⟨oa1, oc1, hc4⟩ := E67.oldsC
  refine ⟨_, cq s67', _, cq s67', _, rfl, _, _, _, hc4, fun w68 X68 => ?_⟩
  have s68 := Step.of_no X68 s67'.ok
  refine (cloneB_spec ((hold.step s67').step s68).1 (by omega)).mono fun u w78 ⟨ca, cc, he, hcc, hcr, X78, hcf⟩ => ⟨_, _, _, he, ?_⟩
  have s78 := Step.of_no X78 s68.ok
  have s678 := s68.trans s78
  have s78' := s67'.trans s678.none
  have X6778 := X68.trans X78
  have bsx : BSk w78 (grow w68 (grow w67 (grow w64 o64))) ⟨ca, cc, b⟩ := ⟨Row.fresh hcr fun ad ha => (hcf ad ha).1, hcc⟩
  refine ⟨X6778.cell hc4 id, cq s78', cq s78', fun w82 q83 X82 b82 hq83 hq83' => ?_⟩
  have s82 := Step.of_no X82 s78.ok
  have s82' := s78'.trans s82.none
  have E82 := (E67.step s678 id).step s82 id
  refine ⟨(X6778.trans X82).cell hc4 id, cq s82', cq s82', ?_⟩
  obtain ⟨a8, n8, c8, w88, o88, hrun8, s88, hcan8, hst8⟩ := E82.pushOld s82.ok (by show R.olds.length < 1000000; omega) (bsx.step s82) b82 ((X6778.trans X82).cell hc4 id)
  have s88' := s82'.trans s88
  have a40 : ((blk q).add 4).add 0 = (blk q).add 4 := by rw [add_add]
  refine ⟨a8, n8, c8, w88, hrun8, cq s88', _, rfl, ?_⟩
  rw [a40]
  refine ⟨hcan8, thenW_in fun w91 e91 => ?_⟩
  obtain ⟨s91, E91⟩ := hst8 w91 e91
  have s91' := s82'.trans s91
  refine ⟨_, cq s91', ?_⟩
  have E91 : EG w91 (grow w88 o88) q k { R with keys := R.keys ++ [x], olds := R.olds ++ [b] } := E91
  have hlen : (R.keys ++ [x]).length = R.keys.length + 1 := by simp
  have bk := back_spec E91 (hP.step s91' hkq) s91'.ok hqk hS (by show (R.keys ++ [x]).length = (R.olds ++ [b]).length; simp [hl]) (by show 0 < (R.keys ++ [x]).length; omega) (by show (R.keys ++ [x]).length < _; omega) (fun y hy => by
    rcases List.mem_append.1 hy with hy | hy
    · exact hol y hy
    · rw [List.mem_singleton.1 hy]; exact hb)
  refine Calls.mono bk fun u w95 ⟨he, o95, s95, E95⟩ => ⟨he, hΦ w95 o95 (s91'.trans s95) ?_⟩
  have E95 : EG w95 o95 q k { R with keys := backK S (R.olds ++ [b]) ((R.keys ++ [x]).length - 1) (R.keys ++ [x]), olds := R.olds ++ [b] } := E95
  rw [hlen, Nat.add_sub_cancel] at E95
  exact E95
theorem Learn_spec (h : EG w o q k R) (hP : POrc w o k S) (ok : Tags w o) (hqk : q ≠ k) (hS : Short S) (hl : R.keys.length = R.olds.length) (h1 : R.keys.length < 1000) (hol : ∀ b ∈ R.olds, b.length < 1000000) (hC : CH w o cg wa wc l oa oc) :
    Calls Try.prog 11 #[.pointer (some (blk q)), chgV cg wa wc oa oc] w (Ret (.int .i64 (learnK S R cg).2) fun w' => ∃ o', Step (fun j => j = q) w o w' o' ∧ EG w' o' q k (learnK S R cg).1) := by
  refine epochs_Ring_Learn.run _ _ _ _ _ _ _ _ _ _ _ ?_
  unfold epochs_Ring_Learn.N
  intro w8 qc X8 b8 hqc hqc'
  have s8 := Step.of_no X8 ok
  have hq8 : Blk w8 qc 34 [.pointer (some (blk q))] ∧ grow w o qc = none := ⟨b8, grow_ge hqc⟩
  have bad : ∀ (k2 : Int) (w9 : World) (o9 : Own), learnK S R cg = (R, k2) → Step no w o w9 o9 → Value.int .i64 k2 = .int .i64 (learnK S R cg).2 ∧ ∃ o', Step (fun j => j = q) w o w9 o' ∧ EG w9 o' q k (learnK S R cg).1 := fun k2 w9 o9 hK s9 => by
    rw [hK]; exact ⟨rfl, o9, s9.none, h.step s9 id⟩
  have hlen : cg.ws.length = l.length := by rw [← hC.m]; simp
  refine ⟨_, b8.cella (i := 0) rfl, fun e => (by cases e), fun _ => ⟨fun hk w10 X10 => ?_, fun hk w10 pp X10 P10 => ?_⟩⟩
  · exact bad 1 w10 _ (by unfold learnK; rw [if_pos (.inl hk)]) (s8.trans (Step.of_no X10 s8.ok))
  obtain ⟨s10', M10⟩ := Step.priv X10 P10 s8.ok
  have s10 := s8.trans s10'
  have hpp := P10 pp (by simp)
  have l8 := X8.size
  have hql := h.lt
  have hpq : pp ≠ q := by omega
  have R10 := Right_spec (w := w10) (cg := cg) (wa := wa) (oa := oa) (wc := wc) (oc := oc) (hC.step s10).ws.1 hC.m hC.n hC.ol
  refine Calls.mono R10 fun u w20 ⟨he, X20⟩ => ⟨_, he, (M10.keep (Step.of_no X20 s10'.ok) fun _ _ h => h), fun hr => ?_, fun hr => ?_⟩
  · exact bad 1 w20 _ (by unfold learnK; rw [if_pos (.inr hr)]) (s10.trans (Step.of_no X20 s10.ok))
  have t20 := Step.of_no X20 s10.ok
  have s20 := s10.trans t20
  have M20 := M10.step t20
  have E20 := h.step s20 id
  have hq20 := free_keep (free_keep hq8 s10') t20
  obtain ⟨ka, kc, hc3⟩ := E20.keysC
  refine ⟨_, hq20.1.cella (i := 0) rfl, _, rfl, _, _, _, hc3, fun h20 => ?_, fun h20 => ?_⟩
  · exact bad 3 w20 _ (by unfold learnK; rw [if_neg (by rw [hr]; simp [hk]), if_pos (by omega)]) s20
  have hK : learnK S R cg = ({ R with keys := backK S (R.olds ++ [cg.old]) R.keys.length (R.keys ++ [(toldBy S R cg).1]), olds := R.olds ++ [cg.old] }, (toldBy S R cg).2) := by
    unfold learnK; rw [if_neg (by rw [hr]; simp [hk]), if_neg (by omega)]
  have hCw := (hC.step s20).ws.1
  have ix := index_spec (wc := wc) E20 hq20.1 s20.ok hCw hC.n
  rw [hlen]
  refine Calls.mono ix fun u w30 ⟨he, X30⟩ => ⟨_, he, M20.keep (Step.of_no X30 s20.ok) (fun _ _ h => h), ?_⟩
  have t30 := Step.of_no X30 s20.ok
  have s30 := s20.trans t30
  have M30 := M20.step t30
  have E30 := h.step s30 id
  have P30 := hP.step s30 id
  have C30 := hC.step s30
  have hq30 := free_keep hq20 t30
  have fin : ∀ (x : Int) (w9 : World) (o9 : Own), (toldBy S R cg).2 = x → ∀ (w1 : World) (o1 : Own), Step no w o w1 o1 → Step (fun j => j = q) w1 o1 w9 o9 → EG w9 o9 q k { R with keys := backK S (R.olds ++ [cg.old]) R.keys.length (R.keys ++ [(toldBy S R cg).1]), olds := R.olds ++ [cg.old] } → Value.int .i64 x = .int .i64 (learnK S R cg).2 ∧ ∃ o', Step (fun j => j = q) w o w9 o' ∧ EG w9 o' q k (learnK S R cg).1 := fun x w9 o9 hx w1 o1 s1 s9 E9 => by
    rw [hK, ← hx]; exact ⟨rfl, o9, s1.none.trans s9, E9⟩
  refine ⟨fun hge => ?_, fun hlt => ?_⟩
  · rcases idxW_cases l R.who with ⟨i, x, g1, g2, g3, g4⟩ | ⟨g3, g4⟩
    · have ht : toldBy S R cg = unwrapOf S R.secret x.b := by unfold toldBy; rw [← hC.m, g4]; rfl
      have hil := (List.getElem?_eq_some_iff.1 g1).1
      obtain ⟨ad, had⟩ := C30.ws.1.faddr Wr.len (by decide) hil
      have hw30 := C30.ws.1
      rw [had] at hw30
      have cB : w30.cell? ((ad.add (i * 2)).add 1) = some (.slice x.a x.b.length x.c) := hw30.fcell Wr.len g1 1 rfl
      rw [g3]
      refine ⟨_, hq30.1.cella (i := 0) rfl, _, rfl, _, E30.orc, _, hq30.1.cella (i := 0) rfl, _, rfl, _, E30.secret, ad, had, by omega, by omega, _, _, _, by rw [Int.toNat_natCast]; exact cB, fun w32 X32 => ?_⟩
      have t32 := Step.of_no X32 s30.ok
      have s32 := s30.trans t32
      obtain ⟨x1, x2, x3⟩ := (hC.step s32).bs x (List.mem_of_getElem? g1)
      refine Calls.mono (UnwrapO (hP.step s32 id) R.secret x1.1 x3 x2) fun u w49 ⟨he, X49⟩ => ⟨_, _, he, (M30.step t32).keep (Step.of_no X49 s32.ok) (fun _ _ h => h), ?_⟩
      have t49 := Step.of_no X49 s32.ok
      have s49 := s32.trans t49
      have M49 := (M30.step t32).step t49
      refine learn_tail (h.step s49 id) (hP.step s49 id) s49.ok hqk hS hl h1 hol (free_keep (free_keep hq30 t32) t49) M49 hpq (hC.step s49).old hC.ol (show (toldBy S R cg).1 = (unwrapOf S R.secret x.b).1 by rw [ht]) fun w9 o9 s9 E9 => ?_
      exact fin _ w9 o9 (by rw [ht]) _ _ s49 s9 E9
    · rw [g3] at hge; exact absurd hge (by decide)
  · rcases idxW_cases l R.who with ⟨i, x, g1, g2, g3, g4⟩ | ⟨g3, g4⟩
    · rw [g3] at hlt; omega
    · have ht : toldBy S R cg = (0, 11) := by unfold toldBy; rw [← hC.m, g4]
      refine learn_tail E30 P30 s30.ok hqk hS hl h1 hol hq30 M30 hpq C30.old hC.ol (show (toldBy S R cg).1 = 0 by rw [ht]) fun w9 o9 s9 E9 => ?_
      exact fin _ w9 o9 (by rw [ht]) _ _ s30 s9 E9
end
end Go.Proofs.Ytaifegpikhjiiaa

/- Epochs: Begin. -/
set_option linter.unusedVariables false
set_option linter.unusedSimpArgs false
set_option maxRecDepth 20000
set_option maxHeartbeats 4000000
namespace Go.Proofs.Ytaifegpikhjiiaa
open Go Go.Mx Go.Proofs
open W (OwnB GivesW)
def only (k : Nat) (w : World) (o o' : Own) : Own := fun b => if b < w.heap.size then o b else if o' b = some k then some k else none
section
variable {w0 w w' w1 : World} {o0 o o' o1 : Own} {q k p N m : Nat} {K : Nat → Prop} {S : OS} {b : List UInt8} {a : Option Addr} {c : Nat} {cs : List Value}
theorem only_k (s : Step K w0 o0 w o) {b : Nat} (h : o b = some k) : only k w0 o0 o b = some k := by
  unfold only
  split
  · rename_i hb; rw [← s.same b hb]; exact h
  · first | rfl | rw [if_pos h]
theorem only_of (s : Step K w0 o0 w o) {b j : Nat} (h : only k w0 o0 o b = some j) : o b = some j := by
  unfold only at h
  split at h
  · rename_i hb; rw [s.same b hb]; exact h
  · split at h
    · rename_i h2; rw [h2, ← h]
    · cases h
theorem only_none (s : Step K w0 o0 w o) {b : Nat} (h : o b = none) : only k w0 o0 o b = none := by
  cases hc : only k w0 o0 o b with
  | none => rfl
  | some j => rw [only_of s hc] at h; cases h
theorem step_only (s : Step K w0 o0 w o) (k : Nat) : Step K w0 o0 w (only k w0 o0 o) :=
  ⟨s.ext, fun b hb => if_pos hb, s.ok0, fun b j hb hj => s.ok b j hb (only_of s hj)⟩
theorem row_only (h : Row w o a cs) (s : Step K w0 o0 w o) (k : Nat) : Row w (only k w0 o0 o) a cs := ⟨h.1, fun h0 ad ha => only_none s (h.2 h0 ad ha)⟩
theorem lrow_only {e : TypeId} {size n : Nat} (h : LRow e size N w o a n c cs) (s : Step K w0 o0 w o) (hN : w0.heap.size ≤ N) (hk : k < N) : Row w (only k w0 o0 o) a cs := ⟨h.row, fun h0 ad ha => by
  rcases h with ⟨h1, h2, h3, h4⟩ | ⟨j, hj, hjw, g⟩
  · exact absurd h4 h0
  · have hg := g.tg ad ha
    show (if ad.block < w0.heap.size then o0 ad.block else if o ad.block = some k then some k else none) = none
    split
    · rename_i hb
      rw [s.same _ hb] at hg
      have := s.ok0 _ _ hb hg.1
      omega
    · rw [if_neg (fun e => by rw [hg.1] at e; cases e; omega)]⟩
theorem POrc.only (h : POrc w o k S) (s : Step K w0 o0 w o) : POrc w (only k w0 o0 o) k S := by
  obtain ⟨g, rfl, h1, h2, h3⟩ := h
  exact ⟨g, rfl, h1, fun b hb => only_k s (h2 b hb), fun b hb j hj hne => h3 b hb j (only_of s hj) hne⟩
theorem WRow.push {l : List Wr} (h : WRow N w o a c l) (ok : Tags w o) (hl : l.length < 1000000) (x : Wr) {q : Nat} (hb : Blk w q 60 x.C) (hq : N ≤ q) (hq' : q < w.heap.size) :
    ∃ a' n' c' w' o', (Builtin.append_ #[50, 50] 50 #[.slice a l.length c, .slice (some (blk q)) 1 1]).run Try.prog w = .ok (.slice a' n' c') w' ∧ n' = (l ++ [x]).length ∧ Step (fun j => N ≤ j) w o w' o' ∧ WRow N w' o' a' c' (l ++ [x]) ∧ Ext (fun b => ∃ ad, a = some ad ∧ b = ad.block) w w' := by
  obtain ⟨i, hi, hz, hsz, hby⟩ := info_of inf60
  obtain ⟨a', c', w', o', hrun, s2, hrow, hX⟩ := LRow.push (ty := 50) Try.underlying50 hi hz hsz hby rfl (by decide) h ok hq hq' (xa := some (blk q)) (m := 1) (xc := 1) (news := x.C) rfl (RowAt.of_blk hb) (fun u hu => by
    simp [Wr.C] at hu
    rcases hu with rfl | rfl <;> rfl) (by omega) (by omega)
  refine ⟨a', _, c', w', o', hrun, by simp, s2, ?_, hX⟩
  unfold WRow
  rw [List.length_append, List.flatMap_append]
  simpa using hrow
end

def wrapsL (S : OS) (key : Int) : List Mem → OS × List (Int × List UInt8)
  | [] => (S, [])
  | m :: r => ((wrapsL (wrapOf S m.pub key).2 key r).1, (m.who, (wrapOf S m.pub key).1.1) :: (wrapsL (wrapOf S m.pub key).2 key r).2)
theorem wrapsL_snoc (key : Int) (m : Mem) : ∀ (l : List Mem) (S : OS), wrapsL S key (l ++ [m]) = ((wrapOf (wrapsL S key l).1 m.pub key).2, (wrapsL S key l).2 ++ [(m.who, (wrapOf (wrapsL S key l).1 m.pub key).1.1)])
  | [], S => rfl
  | x :: r, S => by
    have ih := wrapsL_snoc key m r (wrapOf S x.pub key).2
    show ((wrapsL (wrapOf S x.pub key).2 key (r ++ [m])).1, (x.who, (wrapOf S x.pub key).1.1) :: (wrapsL (wrapOf S x.pub key).2 key (r ++ [m])).2) = _
    rw [ih]
    rfl
def beginK (S : OS) (s : MS) (last : Int) : Chg × Int × OS :=
  let S1 := (keyOf S).2
  let key := (keyOf S).1
  let W := wrapsL S1 key (nowM s.ml)
  if 0 ≤ s.ep then (⟨3, 0, 0, 0, W.2, (sealOf W.1 key (boundL (s.ep + 1)) (boxL last.toNat 0)).1.1⟩, key, (sealOf W.1 key (boundL (s.ep + 1)) (boxL last.toNat 0)).2)
  else (⟨3, 0, 0, 0, W.2, []⟩, key, W.1)
theorem wrap_frame (S : OS) (p key : Int) : (wrapOf S p key).2.publics = S.publics ∧ (wrapOf S p key).2.keys = S.keys ∧ (wrapOf S p key).2.secrets = S.secrets ∧ (wrapOf S p key).2.sealed = S.sealed := by
  have hf := freshOf_frame S
  unfold wrapOf
  split
  · split
    · exact ⟨hf.2.2.2.1, hf.2.1, hf.2.2.1, by first | exact hf.2.2.2.2.2.2.1 | exact hf.2.2.2.2.1 | exact hf.2.2.2.2.2.1⟩
    · exact ⟨rfl, rfl, rfl, rfl⟩
  · exact ⟨rfl, rfl, rfl, rfl⟩
theorem wrapsL_frame (key : Int) : ∀ (l : List Mem) (S : OS), S.ok → (wrapsL S key l).1.publics = S.publics ∧ (wrapsL S key l).1.keys = S.keys ∧ (wrapsL S key l).1.secrets = S.secrets ∧ (wrapsL S key l).1.sealed = S.sealed ∧ (wrapsL S key l).1.ok ∧ (wrapsL S key l).1.used.length ≤ S.used.length + l.length ∧ (wrapsL S key l).2.length = l.length
  | [], S, h => ⟨rfl, rfl, rfl, rfl, h, Nat.le_refl _, rfl⟩
  | m :: r, S, h => by
    obtain ⟨f1, f2, f3, f4⟩ := wrap_frame S m.pub key
    obtain ⟨k1, k2⟩ := wrapOf_ok h m.pub key
    obtain ⟨g1, g2, g3, g4, g5, g6, g7⟩ := wrapsL_frame key r (wrapOf S m.pub key).2 k1
    refine ⟨g1.trans f1, g2.trans f2, g3.trans f3, g4.trans f4, g5, ?_, ?_⟩
    · show (wrapsL (wrapOf S m.pub key).2 key r).1.used.length ≤ S.used.length + (r.length + 1); omega
    · show (wrapsL (wrapOf S m.pub key).2 key r).2.length + 1 = r.length + 1; omega
theorem key_frame (S : OS) : (keyOf S).2.publics = S.publics ∧ (keyOf S).2.secrets = S.secrets ∧ (keyOf S).2.sealed = S.sealed ∧ (keyOf S).2.wrapped = S.wrapped ∧ (keyOf S).2.keys = badd S.keys (keyOf S).1 := by
  have hf := freshOf_frame S
  unfold keyOf
  exact ⟨hf.2.2.2.1, hf.2.2.1, by first | exact hf.2.2.2.2.2.2.1 | exact hf.2.2.2.2.1 | exact hf.2.2.2.2.2.1, by first | exact hf.2.2.2.2.2.2.2 | exact hf.2.2.2.2.2.1 | exact hf.2.2.2.2.2.2.2.1, rfl⟩
theorem wrap_kind {S : OS} {p key : Int} (hp : (alook S.publics p).isSome) (hk : key ∈ S.keys) : wrapOf S p key = ((boxL (freshOf S).1.toNat 8, 0), { (freshOf S).2 with wrapped := aput S.wrapped (freshOf S).1 (p, key) }) := by
  unfold wrapOf
  rw [if_pos hp, if_pos hk]
theorem key_in (S : OS) : (keyOf S).1 ∈ (keyOf S).2.keys := by
  rw [(key_frame S).2.2.2.2]
  exact badd_mem.2 (.inr rfl)
section
variable {w w' w1 : World} {o o' o1 : Own} {q k p N m : Nat} {K : Nat → Prop} {S : OS} {s : MS} {a : Option Addr} {c : Nat}
theorem Begin_spec (hP : POrc w o k S) (ok : Tags w o) (hS : S.ok) (hlen : S.used.length + 20 < 1000000) (hr : Row w o a (s.ml.flatMap Mem.C)) (hs : s.ok) {last : Int} (hl0 : 0 ≤ last) (hl1 : last < 18446744073709551616)
    (hpub : ∀ m ∈ nowM s.ml, (alook S.publics m.pub).isSome) (hne : nowM s.ml ≠ []) :
    Calls Try.prog 9 #[.pointer (some (blk k)), .agg #[.slice a s.ml.length c, .int .i64 s.ep], .int .u64 last] w (fun x w' => ∃ o' wa wc oa oc, ∃ l : List Wr, x = .returned (.tuple #[chgV (beginK S s last).1 wa wc oa oc, .int .u64 (beginK S s last).2.1, .int .i64 0]) ∧ Step (fun j => j = k) w o w' o' ∧ POrc w' o' k (beginK S s last).2.2 ∧ CH w' o' (beginK S s last).1 wa wc l oa oc ∧ l.length ≤ wc ∧ (beginK S s last).1.old.length ≤ oc) := by
  refine (epochs_Begin.go _ _ _ _ _ _ (R := fun v w' => ∃ o' wa wc oa oc, ∃ l : List Wr, v = (.tuple #[chgV (beginK S s last).1 wa wc oa oc, .int .u64 (beginK S s last).2.1, .int .i64 0]) ∧ Step (fun j => j = k) w o w' o' ∧ POrc w' o' k (beginK S s last).2.2 ∧ CH w' o' (beginK S s last).1 wa wc l oa oc ∧ l.length ≤ wc ∧ (beginK S s last).1.old.length ≤ oc) ?_).mono fun x w' ⟨v, he, o', wa, wc, oa, oc, l, hv, hw⟩ => ⟨o', wa, wc, oa, oc, l, by rw [he, hv], hw⟩
  unfold epochs_Begin.N
  have hkl := hP.lt
  have hml := hs.le
  have hnl : (nowM s.ml).length ≤ 8 := Nat.le_trans (List.length_filter_le _ _) hml
  refine ⟨fun e => (by cases e), fun _ w6 p1 p2 X6 P6 => ?_⟩
  obtain ⟨s6, M6⟩ := Step.priv X6 P6 ok
  have g6 : ∀ p ∈ [p1, p2], w.heap.size ≤ p ∧ p < w6.heap.size := P6
  have gp1 := g6 p1 (by simp)
  have gp2 := g6 p2 (by simp)
  have kM : ∀ p ∈ [p1, p2], ¬ p = k := fun p hp => by have := (g6 p hp).1; omega
  refine Calls.mono (KeyO (hP.step s6 id) s6.ok hS (by omega)) fun u w20 ⟨o20, he, s20', P20⟩ => ⟨_, he, M6.keep s20' kM, fun w21 X21 => ?_⟩
  have M20 := M6.step s20'
  have s20 : Step (fun j => j = k) w o w20 o20 := s6.none.trans s20'
  obtain ⟨o21, s21'⟩ := Step.store1 X21 s20.ok (M20 p2 (by simp)).2
  have s21 : Step (fun j => j = k) w o w21 o21 := s20.trans' s21' fun i hi => .inr (by rw [hi]; exact gp2.1)
  have M21 := M20.step s21'
  have P21 := P20.step s21' (show ¬ k = p2 by omega)
  have r21 := hr.step s21
  refine Calls.mono (Now_spec r21 s21.ok (by omega) s.ep) fun u w24 ⟨o24, na, nc, he, s24', r24, hnc⟩ => ⟨_, _, _, he, M21.keep s24' (fun _ _ h => h), ?_⟩
  have s24 := s21.trans s24'.none
  have M24 := M21.step s24'
  have P24 := P21.step s24' id
  obtain ⟨key, hkey⟩ : ∃ key, (keyOf S).1 = key := ⟨_, rfl⟩
  obtain ⟨S1, hS1⟩ : ∃ S1, (keyOf S).2 = S1 := ⟨_, rfl⟩
  have ok1 := keyOf_ok hS
  have kf := key_frame S
  have kin := key_in S
  rw [hS1] at ok1 P24 kf kin
  rw [hkey] at kin
  obtain ⟨nl, hnow⟩ : ∃ nl, nowM s.ml = nl := ⟨_, rfl⟩
  have hB : beginK S s last = if 0 ≤ s.ep then (⟨3, 0, 0, 0, (wrapsL S1 key nl).2, (sealOf (wrapsL S1 key nl).1 key (boundL (s.ep + 1)) (boxL last.toNat 0)).1.1⟩, key, (sealOf (wrapsL S1 key nl).1 key (boundL (s.ep + 1)) (boxL last.toNat 0)).2)
      else (⟨3, 0, 0, 0, (wrapsL S1 key nl).2, []⟩, key, (wrapsL S1 key nl).1) := by
    unfold beginK
    rw [hS1, hkey, hnow]
  rw [hnow] at r24 hnc hnl hpub hne
  rw [hnow, hkey]
  obtain ⟨N, hN⟩ : ∃ N, w6.heap.size = N := ⟨_, rfl⟩
  have l6 := X6.size
  have l620 := s20'.size
  have l2021 := s21'.size
  have l2124 := s24'.size
  refine ⟨fun m vs w1 => ∃ (t : Nat) (o1 : Own) (a1 : Option Addr) (c1 : Nat) (l : List Wr), vs = [.int .u64 key, .int .i64 t, .int .i64 3, .int .i64 0, .int .u64 0, .int .i64 0, .slice a1 l.length c1, .slice none 0 0] ∧ m + t = nl.length ∧ Step (fun j => j = k) w o w1 o1 ∧ POrc w1 o1 k (wrapsL S1 key (nl.take t)).1 ∧ Mine [p1, p2] w1 o1 ∧ Row w1 o1 na (nl.flatMap Mem.C) ∧ WRow N w1 o1 a1 c1 l ∧ l.map Wr.p = (wrapsL S1 key (nl.take t)).2 ∧ (∀ x ∈ l, Row w1 o1 x.a (bytesV x.b) ∧ x.b.length ≤ x.c ∧ x.b.length < 1000000) ∧ N ≤ w1.heap.size,
    nl.length, ⟨0, o24, none, 0, [], rfl, rfl, s24, P24, M24, r24, LRow.nil _ _ _ _ _, rfl, fun x hx => (by cases hx), by omega⟩, ?_⟩
  intro m w35 i0 i1 i2 i3 i4 i5 i6a i6n i6c i7a i7n i7c hI
  obtain ⟨t, o35, a1, c1, l, hi, hm, s35, P35, M35, r35, L35, hlm, hlb, hNs⟩ := hI
  simp only [List.cons.injEq, Value.slice.injEq, Value.int.injEq, true_and, and_true] at hi
  obtain ⟨hkk, rfl, rfl, rfl, rfl, rfl, ⟨rfl, rfl, rfl⟩, rfl, rfl, rfl⟩ := hi
  replace hkk := hkk.symm
  subst hkk
  have fr := wrapsL_frame key (nl.take t) S1 ok1.1
  have htl0 : (nl.take t).length ≤ 8 := by rw [List.length_take]; omega
  have hll : l.length = (nl.take t).length := by have := congrArg List.length hlm; rw [List.length_map] at this; rw [this]; exact fr.2.2.2.2.2.2
  have hus := ok1.2
  refine ⟨fun ht => ?_, fun ht => ?_⟩
  · have htl : t < nl.length := by omega
    have hg : nl[t]? = some nl[t] := List.getElem?_eq_getElem htl
    have hmem := List.getElem_mem htl
    have htk : nl.take (t + 1) = nl.take t ++ [nl[t]] := by rw [List.take_add_one, hg]; rfl
    generalize nl[t] = x at *
    have hr1 := r35.1
    obtain ⟨ad, rfl⟩ := hr1.faddr Mem.len (by decide) htl
    refine ⟨ad, rfl, by omega, by omega, x.who, x.pub, x.fr, x.to_, x.lim, by rw [Int.toNat_natCast]; exact hr1.floads Mem.len hg, fun w49 p50 X49 P49 => ?_⟩
    obtain ⟨s49', M49⟩ := Step.priv X49 P49 s35.ok
    have g50 := P49 p50 (by simp)
    have M3 : Mine [p1, p2, p50] w49 (tags w35 o35 [p50]) := fun y hy => by
      rcases List.mem_cons.1 hy with rfl | hy
      · exact (M35.step s49') _ (by simp)
      · rcases List.mem_cons.1 hy with rfl | hy
        · exact (M35.step s49') _ (by simp)
        · exact M49 _ hy
    have hxp : (alook (wrapsL S1 key (nl.take t)).1.publics x.pub).isSome := by rw [fr.1, kf.1]; exact hpub x hmem
    have hxk : key ∈ (wrapsL S1 key (nl.take t)).1.keys := by rw [fr.2.1]; exact kin
    have hw := WrapO (P35.step s49' id) s49'.ok fr.2.2.2.2.1 (by omega) x.pub key
    have hwk := wrap_kind hxp hxk
    refine Calls.mono hw fun u w54 ⟨o54, xa, xc, he, s54, xr, hxc, P54⟩ => ⟨_, _, _, _, he, M3.keep s54 (fun y hy => ?_), fun hne' => absurd (by rw [hwk]) hne', fun _ w62 q63 X62 b62 hq62 hq62' => ?_⟩
    · rcases List.mem_cons.1 hy with rfl | hy
      · omega
      · rcases List.mem_cons.1 hy with rfl | hy
        · omega
        · rw [List.mem_singleton.1 hy]; omega
    have s3554 := s49'.none.trans s54
    have t62 := Step.of_no X62 s54.ok
    have s62 := s3554.trans t62.none
    have L62 : WRow N w62 _ i6a i6c l := LRow.step L35 s62 fun j hj => .inl (by rw [hj]; omega)
    have l49 := X49.size
    have l54 := s54.size
    obtain ⟨a2, n2, c2, w65, o65, hrun, hn2, s65, L65, X65⟩ := L62.push s62.ok (by omega) ⟨x.who, xa, xc, (wrapOf (wrapsL S1 key (nl.take t)).1 x.pub key).1.1⟩ b62 (by omega) hq62'
    subst hn2
    have M62 := (M35.step s3554).step t62
    refine ⟨a2, _, c2, w65, hrun, M62.keep s65 (fun y hy => by have := (g6 y hy).2; omega), by omega, by omega, fun w66 X66 => ?_⟩
    have M65 := M62.step s65
    obtain ⟨o66, s66⟩ := Step.store1 X66 s65.ok (M65 p2 (by simp)).2
    have hall : Step (fun j => j = k) w o w66 o66 := ((s35.trans s62).trans' s65 fun i hi => .inr (by omega)).trans' s66 fun i hi => .inr (by rw [hi]; exact gp2.1)
    have L66 : WRow N w66 o66 a2 c2 (l ++ [⟨x.who, xa, xc, (wrapOf (wrapsL S1 key (nl.take t)).1 x.pub key).1.1⟩]) := LRow.step L65 s66 fun j hj => .inl (by rw [hj]; omega)
    have hsn := wrapsL_snoc key x (nl.take t) S1
    refine ⟨m - 1, by omega, t + 1, o66, a2, c2, _, rfl, by omega, hall, ?_, M65.step s66, ((r35.step s62).step s65).step s66, L66, ?_, fun y hy => ?_, by have := X62.size; have := X65.size; have := X66.size; omega⟩
    · rw [htk, hsn]
      exact ((P54.step t62 id).step s65 (show ¬ N ≤ k by omega)).step s66 (show ¬ k = p2 by omega)
    · rw [htk, hsn, List.map_append, hlm]; rfl
    · rcases List.mem_append.1 hy with hy | hy
      · obtain ⟨y1, y2⟩ := hlb y hy
        exact ⟨((y1.step s62).step s65).step s66, y2⟩
      · rw [List.mem_singleton.1 hy]
        exact ⟨((xr.step t62).step s65).step s66, hxc, by rw [hwk, boxL_length]; decide⟩
  · have htt : t = nl.length := by omega
    subst htt
    rw [List.take_of_length_le (Nat.le_refl _)] at hlm P35 fr hll
    have hll0 : 0 < nl.length := by
      cases nl with
      | nil => exact absurd rfl hne
      | cons _ _ => simp
    refine ⟨fun h0 => absurd h0 (by omega), fun _ => ⟨fun hep => ?_, fun hep w98 X98 => ?_⟩⟩
    · refine ⟨by have := hs.ep1; omega, by have := hs.ep1; omega, ?_⟩
      refine (bound_spec (e := s.ep + 1) (by omega) (by have := hs.ep1; omega) w35).mono fun u w78 ⟨ba, bc, he, hO, X78⟩ => ⟨_, _, _, he, ?_⟩
      have t78 := Step.of_no X78 s35.ok
      have Mp2 : Mine [p2] w35 o35 := M35.sub fun p hp => by rw [List.mem_singleton.1 hp]; simp
      refine ⟨Mp2.keep t78 (fun _ _ h => h), ?_⟩
      obtain ⟨ln, rfl⟩ := Int.eq_ofNat_of_zero_le hl0
      refine (eight_spec (h := ln) (by omega) w78).mono fun u w81 ⟨ea, ec, he, hE, X81⟩ => ⟨_, _, _, he, ?_⟩
      have t81 := Step.of_no X81 t78.ok
      refine ⟨(Mp2.step t78).keep t81 (fun _ _ h => h), ?_⟩
      have t7881 := t78.trans t81
      have rb : Row w81 _ ba (bytesV (boundL (s.ep + 1))) := (row_of_own hO X78 : Row w78 (grow w35 o35) ba _).step t81
      have re : Row w81 _ ea (bytesV (boxL ln 0)) := (row_of_own hE X81 : Row w81 (grow w78 (grow w35 o35)) ea _)
      have hse := SealO (P35.step t7881 id) t81.ok fr.2.2.2.2.1 (by omega) key (bc := bc) (pc := ec) rb re (by have := boundL_le (s.ep + 1); omega) (by rw [boxL_length]; decide)
      refine Calls.mono hse fun u w85 ⟨o85, za, zc, he, s85, zr, hzc, P85⟩ => ⟨_, _, _, _, he, ((Mp2.step t78).step t81).keep s85 (fun y hy => by rw [List.mem_singleton.1 hy]; omega), fun w92 X92 => ?_⟩
      have M85 := ((Mp2.step t78).step t81).step s85
      obtain ⟨o92, s92⟩ := Step.store1 X92 s85.ok (M85 p2 (by simp)).2
      have sA := t7881.none.trans s85
      have sB : Step (fun j => j = k ∨ j = p2) w35 o35 w92 o92 := (sA.mono fun _ h _ => .inl h).trans (s92.mono fun _ h _ => .inr h)
      have sW : Step (fun j => j = k) w o w92 o92 := (s35.trans sA).trans' s92 fun i hi => .inr (by rw [hi]; exact gp2.1)
      have L92 : WRow N w92 o92 i6a i6c l := LRow.step L35 sB fun j hj => .inl (by rcases hj with h | h <;> omega)
      have hB2 : beginK S s ((ln : Nat) : Int) = (⟨3, 0, 0, 0, (wrapsL S1 key nl).2, (sealOf (wrapsL S1 key nl).1 key (boundL (s.ep + 1)) (boxL ln 0)).1.1⟩, key, (sealOf (wrapsL S1 key nl).1 key (boundL (s.ep + 1)) (boxL ln 0)).2) := by rw [hB, if_pos hep]; rfl
      rw [hB2]
      have hlw : l.length = (wrapsL S1 key nl).2.length := by rw [← hlm, List.length_map]
      refine ⟨only k w o o92, i6a, i6c, za, zc, l, by rw [hlw]; rfl, step_only sW k, (P85.step s92 (show ¬ k = p2 by omega)).only sW, ⟨lrow_only L92 sW (by omega) (by omega), hlm, fun x hx => ?_, row_only (zr.step s92) sW k, ?_, by omega⟩, L92.le, hzc⟩
      · obtain ⟨y1, y2⟩ := hlb x hx
        exact ⟨row_only (y1.step sB) sW k, y2⟩
      · show (sealOf (wrapsL S1 key nl).1 key (boundL (s.ep + 1)) (boxL ln 0)).1.1.length < 1000000
        unfold sealOf
        split
        · split
          · show (0 : Nat) < _; decide
          · show (boxL _ _).length < _
            rw [boxL_length]
            have := sizeN_le (classOf (boxL ln 0).length)
            omega
        · show (0 : Nat) < _; decide
    · obtain ⟨o98, s98⟩ := Step.store1 X98 s35.ok (M35 p2 (by simp)).2
      have sW : Step (fun j => j = k) w o w98 o98 := s35.trans' s98 fun i hi => .inr (by rw [hi]; exact gp2.1)
      have L98 : WRow N w98 o98 i6a i6c l := LRow.step L35 s98 fun j hj => .inl (by rw [hj]; omega)
      have hB2 : beginK S s last = (⟨3, 0, 0, 0, (wrapsL S1 key nl).2, []⟩, key, (wrapsL S1 key nl).1) := by rw [hB, if_neg (by omega)]
      rw [hB2]
      have hlw : l.length = (wrapsL S1 key nl).2.length := by rw [← hlm, List.length_map]
      refine ⟨only k w o o98, i6a, i6c, none, 0, l, by rw [hlw]; rfl, step_only sW k, (P35.step s98 (show ¬ k = p2 by omega)).only sW, ⟨lrow_only L98 sW (by omega) (by omega), hlm, fun x hx => ?_, Row.nil _ _ _, by show (0 : Nat) < _; decide, by omega⟩, L98.le, Nat.le_refl _⟩
      obtain ⟨y1, y2⟩ := hlb x hx
      exact ⟨row_only (y1.step s98) sW k, y2⟩
end
end Go.Proofs.Ytaifegpikhjiiaa

/- Epochs: the reference's oracle (keys, what is sealed, and wrapped), and its Begin. -/
set_option linter.unusedVariables false
set_option linter.unusedSimpArgs false
set_option maxRecDepth 20000
set_option maxHeartbeats 4000000
namespace Go.Proofs.Ytaifegpikhjiiaa
open Go Go.Mx Go.Proofs
open W (OwnB GivesW)
section
variable {w0 w w' w1 : World} {o0 o o' o1 : Own} {q k j p n m : Nat} {K : Nat → Prop} {S : OS} {b x : List UInt8} {a ba pa xa : Option Addr} {c bc pc xc : Nat} {d : List Int} {L : List RRow}
theorem keyInv (h : OInv S) : OInv (keyOf S).2 := by
  obtain ⟨f1, f2, f3, f4, f5⟩ := fresh_inv h
  exact ⟨f1.ok, f1.rng, f1.hu, f1.hi, f1.sg, f1.gs, f1.su, f1.pu, f1.ps, f1.eu⟩
theorem sealInv (h : OInv S) (key : Int) (b p : List UInt8) : OInv (sealOf S key b p).2 := by
  obtain ⟨f1, _⟩ := fresh_inv h
  unfold sealOf
  split
  · split
    · exact h
    · exact ⟨f1.ok, f1.rng, f1.hu, f1.hi, f1.sg, f1.gs, f1.su, f1.pu, f1.ps, f1.eu⟩
  · exact h
theorem wrapInv (h : OInv S) (p key : Int) : OInv (wrapOf S p key).2 := by
  obtain ⟨f1, _⟩ := fresh_inv h
  unfold wrapOf
  split
  · split
    · exact ⟨f1.ok, f1.rng, f1.hu, f1.hi, f1.sg, f1.gs, f1.su, f1.pu, f1.ps, f1.eu⟩
    · exact h
  · exact h
theorem inf119 : (Try.prog.info? 119).map (fun i => (i.zero, i.size, i.bytes)) = some (some (.agg #[.int .i64 0, .slice none 0 0]), 2, 32) := by kernel_rfl
end
section
variable {w w' w1 : World} {o o' o1 : Own} {q k p N m j n : Nat} {K : Nat → Prop} {S : OS} {s : MS} {a : Option Addr} {c : Nat}
end
end Go.Proofs.Ytaifegpikhjiiaa

/- Epochs: a ring of the reference, and its Learn where all keys are known. -/
set_option linter.unusedVariables false
set_option linter.unusedSimpArgs false
set_option maxRecDepth 20000
set_option maxHeartbeats 4000000
namespace Go.Proofs.Ytaifegpikhjiiaa
open Go Go.Mx Go.Proofs
open W (OwnB GivesW)
def RS.W (R : RS) (ka : Option Addr) (kc : Nat) (oa : Option Addr) (oc : Nat) : List Value := [.int .i64 R.who, .int .u64 R.secret, .slice ka R.keys.length kc, .slice oa R.olds.length oc]
structure MG (w : World) (o : Own) (q : Nat) (R : RS) : Prop where
  mem : ∃ ka kc oa oc, ∃ ol : List BS, Blk w q 85 (R.W ka kc oa oc) ∧ KRw w o q ka kc R.keys ∧ ORw w o q oa oc ol ∧ ol.map BS.bs = R.olds ∧ ∀ x ∈ ol, BSk w o x
  tg : o q = some q
section
variable {w w' w1 : World} {o o' o1 : Own} {q k p N m : Nat} {K : Nat → Prop} {R : RS} {b : List UInt8} {a : Option Addr} {c : Nat}
theorem MG.lt (h : MG w o q R) : q < w.heap.size := by
  obtain ⟨ka, kc, oa, oc, ol, hb, _⟩ := h.mem
  exact hb.lt
theorem MG.step (h : MG w o q R) (s : Step K w o w' o') (hk : ¬ K q) : MG w' o' q R := by
  obtain ⟨⟨ka, kc, oa, oc, ol, hb, hk1, ho, hm, hx⟩, tg⟩ := h
  exact ⟨⟨ka, kc, oa, oc, ol, s.blk hb tg hk, hk1.step s hk, ho.step s hk, hm, fun x h => (hx x h).step s⟩, by rw [s.own hb.lt]; exact tg⟩
theorem MG.init {b : Nat} {who secret : Int} (ok : Tags w o) (X : Ext no w w') (hb : Blk w' b 85 [.int .i64 who, .int .u64 secret, .slice none 0 0, .slice none 0 0]) (hq : w.heap.size ≤ b) (hq' : b < w'.heap.size) :
    Step no w o w' (tag (grow w o) b b) ∧ MG w' (tag (grow w o) b b) b ⟨who, secret, [], []⟩ :=
  ⟨(Step.of_no X ok).tag hq hq', ⟨none, 0, none, 0, [], hb, Grows.nil _ _ _ _ _, Grows.nil _ _ _ _ _, rfl, fun x h => (by cases h)⟩, tag_self⟩
end
section
variable {w w' w1 : World} {o o' o1 : Own} {q k p N m j n : Nat} {K : Nat → Prop} {R : RS} {S : OS} {b : List UInt8} {a : Option Addr} {c : Nat} {l : List Wr} {cg : Chg} {wa oa : Option Addr} {wc oc : Nat}
end
end Go.Proofs.Ytaifegpikhjiiaa

/- Epochs, plainly: what Begin tells, and what a ring learns of it. -/
set_option linter.unusedVariables false
set_option linter.unusedSimpArgs false
set_option maxRecDepth 20000
set_option maxHeartbeats 4000000
namespace Go.Proofs.Ytaifegpikhjiiaa
open Go Go.Mx Go.Proofs
structure KI (S : OS) : Prop where
  inv : OInv S
  su : ∀ x s, alook S.sealed x = some s → x ∈ S.used
  wu : ∀ x s, alook S.wrapped x = some s → x ∈ S.used
  sh : Short S
structure KLe (S S' : OS) : Prop where
  pb : S'.publics = S.publics
  sl : ∀ x s, alook S.sealed x = some s → alook S'.sealed x = some s
  wr : ∀ x s, alook S.wrapped x = some s → alook S'.wrapped x = some s
  us : ∀ x ∈ S.used, x ∈ S'.used
theorem KLe.refl (S : OS) : KLe S S := ⟨rfl, fun _ _ h => h, fun _ _ h => h, fun _ h => h⟩
theorem KLe.trans {S T U : OS} (a : KLe S T) (b : KLe T U) : KLe S U := ⟨b.pb.trans a.pb, fun x s h => b.sl x s (a.sl x s h), fun x s h => b.wr x s (a.wr x s h), fun x h => b.us x (a.us x h)⟩
theorem KLe.open {S S' : OS} (h : KLe S S') {k : Int} {b x p : List UInt8} (ho : openOf S k b x = (p, 0)) : openOf S' k b x = (p, 0) := by
  unfold openOf at ho ⊢
  cases hs : alook S.sealed (handL x) with
  | none => rw [hs] at ho; cases ho
  | some s => rw [hs] at ho; rw [h.sl _ _ hs]; exact ho
theorem fresh_size {S : OS} (h : S.ok) : (freshOf S).2.used.length = S.used.length + 1 := by
  obtain ⟨_, _, a3, _⟩ := freshOf_spec h
  rw [a3]; simp
theorem KI.key {S : OS} (h : KI S) : KI (keyOf S).2 ∧ KLe S (keyOf S).2 ∧ (keyOf S).1 ∉ S.used ∧ (keyOf S).1 ≠ 0 ∧ (keyOf S).1 ∈ (keyOf S).2.used ∧ (keyOf S).2.used.length = S.used.length + 1 := by
  obtain ⟨c1, c2, c3, c4, c5, c6, c7, c8⟩ := freshOf_frame S
  obtain ⟨f1, f2, f3, f4, f5⟩ := fresh_inv h.inv
  have e7 : (keyOf S).2.sealed = S.sealed := c7
  have e8 : (keyOf S).2.wrapped = S.wrapped := c8
  exact ⟨⟨keyInv h.inv, fun x s e => f2.used _ (h.su x s (by rw [← e7]; exact e)), fun x s e => f2.used _ (h.wu x s (by rw [← e8]; exact e)), fun x s e => h.sh x s (by rw [← e7]; exact e)⟩,
    ⟨c4, fun x s e => by rw [e7]; exact e, fun x s e => by rw [e8]; exact e, f2.used⟩, f3, f5, f4, fresh_size h.inv.ok⟩
theorem KI.wrap {S : OS} (h : KI S) {p key : Int} (hp : (alook S.publics p).isSome) (hk : key ∈ S.keys) (hl : S.used.length < 100000000) :
    KI (wrapOf S p key).2 ∧ KLe S (wrapOf S p key).2 ∧ (wrapOf S p key).1.1.length = 16 ∧ alook (wrapOf S p key).2.wrapped (handL (wrapOf S p key).1.1) = some (p, key) ∧ (wrapOf S p key).2.keys = S.keys ∧ (wrapOf S p key).2.used.length = S.used.length + 1 := by
  obtain ⟨c1, c2, c3, c4, c5, c6, c7, c8⟩ := freshOf_frame S
  obtain ⟨f1, f2, f3, f4, f5⟩ := fresh_inv h.inv
  have hsz := fresh_size h.inv.ok
  have hfit := f1.fit (by omega) f4
  have hi := wrapInv h.inv p key
  rw [wrap_kind hp hk] at hi ⊢
  have hle : ∀ x v, alook S.wrapped x = some v → alook (aput S.wrapped (freshOf S).1 (p, key)) x = some v := fun x v e => by
    rw [alook_put, if_neg (fun e' => f3 (by rw [e']; exact h.wu x v e))]; exact e
  refine ⟨⟨hi, fun x s e => f2.used _ (h.su x s (by rw [← c7]; exact e)), fun x s e => ?_, fun x s e => h.sh x s (by rw [← c7]; exact e)⟩, ⟨c4, fun x s e => by show alook (freshOf S).2.sealed x = _; rw [c7]; exact e, hle, f2.used⟩, by rw [boxL_length], ?_, c2, hsz⟩
  · have e : alook (aput S.wrapped (freshOf S).1 (p, key)) x = some s := e
    rw [alook_put] at e
    split at e
    · rename_i hx; subst hx; exact f4
    · exact f2.used _ (h.wu x s e)
  · show alook (aput S.wrapped (freshOf S).1 (p, key)) ((handL (boxL (freshOf S).1.toNat 8) : Nat) : Int) = _
    rw [handL_box (by omega), alook_put, if_pos (by omega)]
theorem KI.sealK {S : OS} (h : KI S) {key : Int} {b p : List UInt8} (hk : key ∈ S.keys) (hp : p.length = 8) (hl : S.used.length < 100000000) :
    KI (sealOf S key b p).2 ∧ KLe S (sealOf S key b p).2 ∧ (sealOf S key b p).1.1.length = 24 ∧ openOf (sealOf S key b p).2 key b (sealOf S key b p).1.1 = (p, 0) ∧ (sealOf S key b p).2.used.length = S.used.length + 1 := by
  obtain ⟨c1, c2, c3, c4, c5, c6, c7, c8⟩ := freshOf_frame S
  obtain ⟨f1, f2, f3, f4, f5⟩ := fresh_inv h.inv
  have hsz := fresh_size h.inv.ok
  have hfit := f1.fit (by omega) f4
  have hi := sealInv h.inv key b p
  have hc : classOf p.length = 0 := by rw [hp]; decide
  have hE : sealOf S key b p = ((boxL (freshOf S).1.toNat (sizeN (classOf p.length)), 0), { (freshOf S).2 with sealed := aput S.sealed (freshOf S).1 ⟨key, b, p⟩ }) := by
    unfold sealOf; rw [if_pos hk, if_neg (by omega)]
  rw [hE] at hi ⊢
  have hz : sizeN (classOf p.length) = 16 := by rw [hc]; decide
  have hle : ∀ x v, alook S.sealed x = some v → alook (aput S.sealed (freshOf S).1 (⟨key, b, p⟩ : Sealed)) x = some v := fun x v e => by
    rw [alook_put, if_neg (fun e' => f3 (by rw [e']; exact h.su x v e))]; exact e
  refine ⟨⟨hi, fun x s e => ?_, fun x s e => f2.used _ (h.wu x s (by rw [← c8]; exact e)), fun x s e => ?_⟩, ⟨c4, hle, fun x s e => by show alook (freshOf S).2.wrapped x = _; rw [c8]; exact e, f2.used⟩, by rw [boxL_length, hz], ?_, hsz⟩
  · have e : alook (aput S.sealed (freshOf S).1 (⟨key, b, p⟩ : Sealed)) x = some s := e
    rw [alook_put] at e
    split at e
    · rename_i hx; subst hx; exact f4
    · exact f2.used _ (h.su x s e)
  · have e : alook (aput S.sealed (freshOf S).1 (⟨key, b, p⟩ : Sealed)) x = some s := e
    rw [alook_put] at e
    split at e
    · cases e; show p.length ≤ _; omega
    · exact h.sh x s e
  · have hL : alook (aput S.sealed (freshOf S).1 (⟨key, b, p⟩ : Sealed)) ((handL (boxL (freshOf S).1.toNat (sizeN (classOf p.length))) : Nat) : Int) = some ⟨key, b, p⟩ := by
      rw [handL_box (by omega), alook_put, if_pos (by omega)]
    unfold openOf
    rw [hL]
    show (if _ then _ else if _ then _ else if _ then _ else _) = _
    rw [if_neg (by rw [boxL_length]; exact fun h => h rfl), if_neg (fun h => h rfl), if_neg (fun h => h rfl)]
theorem wrapsL_plain (key : Int) : ∀ (l : List Mem) (S : OS), KI S → key ∈ S.keys → (∀ m ∈ l, (alook S.publics m.pub).isSome) → S.used.length + l.length < 100000000 →
    KI (wrapsL S key l).1 ∧ KLe S (wrapsL S key l).1 ∧ (wrapsL S key l).2.map Prod.fst = l.map Mem.who ∧ (wrapsL S key l).1.keys = S.keys ∧ (wrapsL S key l).1.used.length = S.used.length + l.length ∧
    ∀ p ∈ (wrapsL S key l).2, ∃ m ∈ l, p.1 = m.who ∧ p.2.length = 16 ∧ alook (wrapsL S key l).1.wrapped (handL p.2) = some (m.pub, key)
  | [], S, h, hk, hp, hl => ⟨h, KLe.refl _, rfl, rfl, rfl, fun p hp => by cases hp⟩
  | m :: r, S, h, hk, hp, hl => by
    simp only [List.length_cons] at hl
    obtain ⟨a1, a2, a3, a4, a5, a6⟩ := h.wrap (hp m (by simp)) hk (by omega)
    obtain ⟨b1, b2, b3, b4, b5, b6⟩ := wrapsL_plain key r (wrapOf S m.pub key).2 a1 (by rw [a5]; exact hk) (fun x hx => by rw [a2.pb]; exact hp x (by simp [hx])) (by omega)
    refine ⟨b1, a2.trans b2, ?_, b4.trans a5, ?_, ?_⟩
    · show m.who :: (wrapsL (wrapOf S m.pub key).2 key r).2.map Prod.fst = _
      rw [b3]; rfl
    · show (wrapsL (wrapOf S m.pub key).2 key r).1.used.length = S.used.length + (r.length + 1); omega
    · intro p hp'
      rcases List.mem_cons.1 (show p ∈ (m.who, (wrapOf S m.pub key).1.1) :: (wrapsL (wrapOf S m.pub key).2 key r).2 from hp') with rfl | hp'
      · exact ⟨m, by simp, rfl, a3, b2.wr _ _ a4⟩
      · obtain ⟨m', hm, e1, e2, e3⟩ := b6 p hp'
        exact ⟨m', by simp [hm], e1, e2, e3⟩
structure BK (S : OS) (s : MS) (last : Int) : Prop where
  ki : KI (beginK S s last).2.2
  le : KLe S (beginK S s last).2.2
  len : (beginK S s last).2.2.used.length ≤ S.used.length + 10
  nz : (beginK S s last).2.1 ≠ 0
  new : (beginK S s last).2.1 ∉ S.used
  us : (beginK S s last).2.1 ∈ (beginK S s last).2.2.used
  kd : (beginK S s last).1.kd = 3
  right : rightM (beginK S s last).1 = true
  app : applyM s (beginK S s last).1 = if s.ep + 1 ≥ 20 then (MS.z, 2) else (⟨s.ml, s.ep + 1⟩, 0)
  opens : 0 ≤ s.ep → openOf (beginK S s last).2.2 (beginK S s last).2.1 (boundL (s.ep + 1)) (beginK S s last).1.old = (boxL last.toNat 0, 0)
  box : ∀ p ∈ (beginK S s last).1.ws, ∃ m ∈ nowM s.ml, p.1 = m.who ∧ p.2.length = 16 ∧ alook (beginK S s last).2.2.wrapped (handL p.2) = some (m.pub, (beginK S s last).2.1)
  whos : (beginK S s last).1.ws.map Prod.fst = (nowM s.ml).map Mem.who
theorem boxesGo_of : ∀ {l : List (Int × List UInt8)} {last : Int}, l.Pairwise (fun a b => a.1 < b.1) → (∀ x ∈ l, last < x.1) → (∀ x ∈ l, x.2.length = 16 ∧ 0 ≤ x.1 ∧ x.1 < 8) → boxesGo last l = true
  | [], last, _, _, _ => rfl
  | x :: r, last, hp, h1, h2 => by
    have h3 := List.pairwise_cons.1 hp
    have hx := h2 x (by simp)
    have := boxesGo_of h3.2 (last := x.1) h3.1 fun y hy => h2 y (by simp [hy])
    unfold boxesGo
    rw [this]
    simp [hx, h1 x (by simp)]
theorem nowM_sub {l : List Mem} {m : Mem} (h : m ∈ nowM l) : m ∈ l ∧ m.to_ = -1 := by
  unfold nowM at h
  simpa using h
theorem beginK_plain {S : OS} {s : MS} {last : Int} (h : KI S) (hs : s.ok) (hp : ∀ m ∈ nowM s.ml, (alook S.publics m.pub).isSome) (hne : nowM s.ml ≠ []) (hl : S.used.length < 10000000) : BK S s last := by
  obtain ⟨a1, a2, a3, a4, a5, a6⟩ := h.key
  have h8 := hs.le
  have hnl : (nowM s.ml).length ≤ 8 := Nat.le_trans (List.length_filter_le _ _) h8
  have hki := key_in S
  obtain ⟨b1, b2, b3, b4, b5, b6⟩ := wrapsL_plain (keyOf S).1 (nowM s.ml) (keyOf S).2 a1 hki (fun m hm => by rw [a2.pb]; exact hp m hm) (by omega)
  obtain ⟨d1, d2, d3, d4, d5⟩ := b1.sealK (key := (keyOf S).1) (b := boundL (s.ep + 1)) (p := boxL last.toNat 0) (by rw [b4]; exact hki) (by rw [boxL_length]) (by omega)
  have hpw : ((wrapsL (keyOf S).2 (keyOf S).1 (nowM s.ml)).2.map Prod.fst).Pairwise (· < ·) := by
    rw [b3, List.pairwise_map]
    exact hs.sorted.filter _
  have hws : boxesP (wrapsL (keyOf S).2 (keyOf S).1 (nowM s.ml)).2 = true := by
    unfold boxesP
    have hne2 : (wrapsL (keyOf S).2 (keyOf S).1 (nowM s.ml)).2 ≠ [] := fun e => by
      rw [e] at b3
      exact hne (List.map_eq_nil_iff.1 b3.symm)
    have hr : ∀ x ∈ (wrapsL (keyOf S).2 (keyOf S).1 (nowM s.ml)).2, x.2.length = 16 ∧ 0 ≤ x.1 ∧ x.1 < 8 := fun x hx => by
      obtain ⟨m, hm, e1, e2, _⟩ := b6 x hx
      have := hs.who m (nowM_sub hm).1
      rw [e1]; exact ⟨e2, this⟩
    rw [boxesGo_of (List.pairwise_map.1 hpw) (fun x hx => by have := (hr x hx).2; omega) hr]
    simp [hne2]
  have hright : ∀ old : List UInt8, old.length = 0 ∨ old.length = 24 → rightM ⟨3, 0, 0, 0, (wrapsL (keyOf S).2 (keyOf S).1 (nowM s.ml)).2, old⟩ = true := fun old ho => by
    unfold rightM
    show (if (0 : Int) ≤ 0 ∧ (0 : Int) < 8 then (if ((3 : Int) == 3) = boxesP (wrapsL (keyOf S).2 (keyOf S).1 (nowM s.ml)).2 then _ else false) else false) = true
    rw [if_pos (by decide), hws, if_pos rfl]
    show (if (3 : Int) ≠ 3 ∧ ¬ ((wrapsL (keyOf S).2 (keyOf S).1 (nowM s.ml)).2 = [] ∧ old = []) then false else if (3 : Int) = 1 then decide ((0 : Int) ≠ 0 ∧ (0 : Int) = 0) else if (3 : Int) = 2 then decide ((0 : Int) ≠ 0 ∧ (0 : Int) = 0 ∧ 0 ≤ (0 : Int) ∧ (0 : Int) ≤ 200) else if (3 : Int) = 3 then decide ((0 : Int) = 0 ∧ (0 : Int) = 0 ∧ (0 : Int) = 0 ∧ (old.length = 0 ∨ old.length = 24)) else false) = true
    rw [if_neg (fun h => h.1 rfl), if_neg (by decide), if_neg (by decide), if_pos rfl]
    exact decide_eq_true ⟨rfl, rfl, rfl, ho⟩
  have happ : ∀ old : List UInt8, (old.length = 0 ∨ old.length = 24) → ((old.length : Int) == 0) = decide (s.ep < 0) → applyM s ⟨3, 0, 0, 0, (wrapsL (keyOf S).2 (keyOf S).1 (nowM s.ml)).2, old⟩ = if s.ep + 1 ≥ 20 then (MS.z, 2) else (⟨s.ml, s.ep + 1⟩, 0) := fun old ho he => by
    unfold applyM
    rw [if_pos (hright old ho)]
    show (if (3 : Int) = 1 then _ else if (3 : Int) = 2 then _ else beginM s ⟨3, 0, 0, 0, (wrapsL (keyOf S).2 (keyOf S).1 (nowM s.ml)).2, old⟩) = _
    rw [if_neg (by decide), if_neg (by decide)]
    unfold beginM
    by_cases h20 : s.ep + 1 ≥ 20
    · rw [if_pos h20, if_pos h20]
    · rw [if_neg h20, if_neg h20]
      show (if ((old.length : Int) == 0) = decide (s.ep < 0) then (if (nowM s.ml).map Mem.who = (wrapsL (keyOf S).2 (keyOf S).1 (nowM s.ml)).2.map Prod.fst then _ else _) else _) = _
      rw [if_pos he, if_pos b3.symm]
  by_cases hep : 0 ≤ s.ep
  · have hE : beginK S s last = (⟨3, 0, 0, 0, (wrapsL (keyOf S).2 (keyOf S).1 (nowM s.ml)).2, (sealOf (wrapsL (keyOf S).2 (keyOf S).1 (nowM s.ml)).1 (keyOf S).1 (boundL (s.ep + 1)) (boxL last.toNat 0)).1.1⟩, (keyOf S).1, (sealOf (wrapsL (keyOf S).2 (keyOf S).1 (nowM s.ml)).1 (keyOf S).1 (boundL (s.ep + 1)) (boxL last.toNat 0)).2) := by
      unfold beginK; exact if_pos hep
    have hold : ((((sealOf (wrapsL (keyOf S).2 (keyOf S).1 (nowM s.ml)).1 (keyOf S).1 (boundL (s.ep + 1)) (boxL last.toNat 0)).1.1.length : Nat) : Int) == 0) = decide (s.ep < 0) := by
      rw [d3, decide_eq_false (by omega)]; rfl
    constructor <;> rw [hE]
    · exact d1
    · exact (a2.trans b2).trans d2
    · show (sealOf _ _ _ _).2.used.length ≤ _; omega
    · exact a4
    · exact a3
    · exact d2.us _ (b2.us _ a5)
    · exact hright _ (.inr d3)
    · exact happ _ (.inr d3) hold
    · exact fun _ => d4
    · intro p hp'
      obtain ⟨m, hm, e1, e2, e3⟩ := b6 p hp'
      exact ⟨m, hm, e1, e2, d2.wr _ _ e3⟩
    · exact b3
  · have hE : beginK S s last = (⟨3, 0, 0, 0, (wrapsL (keyOf S).2 (keyOf S).1 (nowM s.ml)).2, []⟩, (keyOf S).1, (wrapsL (keyOf S).2 (keyOf S).1 (nowM s.ml)).1) := by
      unfold beginK; exact if_neg hep
    have hold : (((([] : List UInt8).length : Nat) : Int) == 0) = decide (s.ep < 0) := by
      rw [decide_eq_true (by omega)]; rfl
    constructor <;> rw [hE]
    · exact b1
    · exact a2.trans b2
    · show (wrapsL _ _ _).1.used.length ≤ _; omega
    · exact a4
    · exact a3
    · exact b2.us _ a5
    · exact hright _ (.inl rfl)
    · exact happ _ (.inl rfl) hold
    · exact fun h => absurd h hep
    · exact b6
    · exact b3
theorem BK.told {S : OS} {s : MS} {last : Int} (h : BK S s last) {R : RS} (h1 : ∃ m ∈ nowM s.ml, m.who = R.who) (h2 : ∀ m ∈ nowM s.ml, m.who = R.who → alook S.publics m.pub = some R.secret) : toldBy (beginK S s last).2.2 R (beginK S s last).1 = ((beginK S s last).2.1, 0) := by
  obtain ⟨m, hm, hw⟩ := h1
  unfold toldBy
  cases hf : (beginK S s last).1.ws.find? (fun p => p.1 == R.who) with
  | none =>
    have hmem : m.who ∈ (beginK S s last).1.ws.map Prod.fst := by rw [h.whos]; exact List.mem_map_of_mem hm
    obtain ⟨p, hp, e⟩ := List.mem_map.1 hmem
    have := List.find?_eq_none.1 hf p hp
    simp [e, hw] at this
  | some p =>
    have hp := List.mem_of_find?_eq_some hf
    have he : p.1 = R.who := by have := List.find?_some hf; simpa using this
    obtain ⟨m', hm', e1, e2, e3⟩ := h.box p hp
    show unwrapOf _ _ _ = _
    unfold unwrapOf
    rw [e3]
    show (if _ then _ else if _ then _ else _) = _
    rw [if_neg (by rw [e2]; exact fun h => h rfl), if_neg (by
      rw [h.le.pb]
      show ¬ (alook S.publics m'.pub).getD 0 ≠ _
      rw [h2 m' hm' (by rw [← e1]; exact he)]
      exact fun h => h rfl)]
theorem BK.other {S : OS} {s : MS} {last : Int} (h : BK S s last) {R : RS} (h1 : ∀ m ∈ nowM s.ml, m.who ≠ R.who) : toldBy (beginK S s last).2.2 R (beginK S s last).1 = (0, 11) := by
  unfold toldBy
  cases hf : (beginK S s last).1.ws.find? (fun p => p.1 == R.who) with
  | none => rfl
  | some p =>
    have hp := List.mem_of_find?_eq_some hf
    have he : p.1 = R.who := by have := List.find?_some hf; simpa using this
    obtain ⟨m', hm', e1, _⟩ := h.box p hp
    exact absurd (by rw [← e1]; exact he) (h1 m' hm')
def mkK (K : List Int) (m e : Nat) : List Int := (List.range K.length).map fun d => if d < m ∨ e ≤ d then K[d]?.getD 0 else 0
theorem mkK_length (K : List Int) (m e : Nat) : (mkK K m e).length = K.length := by simp [mkK]
theorem mkK_get {K : List Int} {m e d : Nat} (hd : d < K.length) : (mkK K m e)[d]?.getD 0 = if d < m ∨ e ≤ d then K[d]?.getD 0 else 0 := by
  unfold mkK
  rw [List.getElem?_map, List.getElem?_range hd]; rfl
theorem mkK_full {K : List Int} {m e : Nat} (h : e ≤ m) : mkK K m e = K := by
  refine List.ext_getElem? fun d => ?_
  unfold mkK
  rw [List.getElem?_map]
  by_cases hd : d < K.length
  · rw [List.getElem?_range hd]
    show some (if d < m ∨ e ≤ d then K[d]?.getD 0 else 0) = _
    rw [if_pos (by omega), List.getElem?_eq_getElem hd]; rfl
  · rw [List.getElem?_eq_none (by simp; omega), List.getElem?_eq_none (by omega)]; rfl
theorem mkK_push (K : List Int) (m : Nat) (hm : m ≤ K.length) (x : Int) : mkK K m K.length ++ [x] = mkK (K ++ [x]) m K.length := by
  unfold mkK
  rw [List.length_append, List.length_singleton, List.range_succ, List.map_append]
  congr 1
  · refine List.map_congr_left fun d hd => ?_
    have hd := List.mem_range.1 hd
    rw [List.getElem?_append_left hd]
  · show [x] = [if K.length < m ∨ K.length ≤ K.length then (K ++ [x])[K.length]?.getD 0 else 0]
    rw [if_pos (.inr (Nat.le_refl _))]; simp
theorem mkK_zero (K : List Int) (m : Nat) (hm : m ≤ K.length) (x : Int) : mkK K m K.length ++ [0] = mkK (K ++ [x]) m (K.length + 1) := by
  unfold mkK
  rw [List.length_append, List.length_singleton, List.range_succ, List.map_append]
  congr 1
  · refine List.map_congr_left fun d hd => ?_
    have hd := List.mem_range.1 hd
    rw [List.getElem?_append_left hd]
    by_cases h : d < m
    · rw [if_pos (.inl h), if_pos (.inl h)]
    · rw [if_neg (by omega), if_neg (by omega)]
  · show [(0 : Int)] = [if K.length < m ∨ K.length + 1 ≤ K.length then (K ++ [x])[K.length]?.getD 0 else 0]
    rw [if_neg (by omega)]
structure Chain (S : OS) (K : List Int) (O : List (List UInt8)) : Prop where
  len : O.length = K.length
  nz : ∀ x ∈ K, 0 < x ∧ x < 18446744073709551616
  link : ∀ e, e + 1 < K.length → openOf S (K[e + 1]?.getD 0) (boundL ((e + 1 : Nat) : Int)) (O[e + 1]?.getD []) = (boxL (K[e]?.getD 0).toNat 0, 0)
  short : ∀ b ∈ O, b.length < 1000000
theorem Chain.pos {S : OS} {K : List Int} {O : List (List UInt8)} (h : Chain S K O) {d : Nat} (hd : d < K.length) : 0 < K[d]?.getD 0 ∧ K[d]?.getD 0 < 18446744073709551616 := by
  rw [List.getElem?_eq_getElem hd]; exact h.nz _ (List.getElem_mem hd)
theorem valOf_box {h : Nat} (hh : h < 18446744073709551616) : valOf (boxL h 0) = h := by
  have := handL_box hh 0
  unfold handL at this
  rw [if_neg (by rw [boxL_length]; omega), boxL_eq, List.drop_left' (by rfl), List.take_left' (by rfl), if_neg (by simp)] at this
  rw [boxL_eq, List.replicate_zero, List.append_nil]; exact this
theorem back_full {S : OS} {K : List Int} {O : List (List UInt8)} (h : Chain S K O) (m : Nat) : ∀ (e : Nat), e < K.length → backK S O e (mkK K m e) = K
  | 0, _ => mkK_full (Nat.zero_le _)
  | e + 1, he => by
    unfold backK
    by_cases hem : e < m
    · rw [if_neg, mkK_full hem]
      rintro ⟨⟨_, h2⟩, _⟩
      rw [mkK_get (by omega), if_pos (.inl hem)] at h2
      have := (h.pos (d := e) (by omega)).1
      omega
    · have h1 : (mkK K m (e + 1))[e + 1]?.getD 0 = K[e + 1]?.getD 0 := by rw [mkK_get he, if_pos (.inr (Nat.le_refl _))]
      have h0 : (mkK K m (e + 1))[e]?.getD 0 = 0 := by rw [mkK_get (by omega), if_neg (by omega)]
      have hp := h.pos (d := e + 1) he
      have hp0 := h.pos (d := e) (by omega)
      have hl := h.link e he
      rw [if_pos]
      · rw [h1, hl]
        have : ((valOf (boxL (K[e]?.getD 0).toNat 0) : Nat) : Int) = K[e]?.getD 0 := by rw [valOf_box (by omega)]; omega
        show backK S O e ((mkK K m (e + 1)).set e ((valOf (boxL (K[e]?.getD 0).toNat 0) : Nat) : Int)) = K
        rw [this]
        have hset : (mkK K m (e + 1)).set e (K[e]?.getD 0) = mkK K m e := by
          refine List.ext_getElem? fun d => ?_
          rw [List.getElem?_set]
          split
          · rename_i hde; subst hde
            rw [if_pos (by rw [mkK_length]; omega)]
            unfold mkK
            rw [List.getElem?_map, List.getElem?_range (by omega)]
            show _ = some (if _ then _ else _)
            rw [if_pos (.inr (Nat.le_refl _))]
          · rename_i hde
            unfold mkK
            rw [List.getElem?_map, List.getElem?_map]
            by_cases hd : d < K.length
            · rw [List.getElem?_range hd]
              show some (if d < m ∨ e + 1 ≤ d then _ else _) = some (if d < m ∨ e ≤ d then _ else _)
              have hiff : (d < m ∨ e + 1 ≤ d) ↔ (d < m ∨ e ≤ d) := by omega
              simp only [hiff]
            · rw [List.getElem?_eq_none (by simp; omega)]; rfl
        rw [hset]
        exact back_full h m e (by omega)
      · unfold tells
        rw [h1, h0, hl]
        exact ⟨⟨by omega, rfl⟩, rfl, by rw [boxL_length]⟩
end Go.Proofs.Ytaifegpikhjiiaa
