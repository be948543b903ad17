/- Journal: predicates of frames. -/
import Derived.Test.YtidijnfkcpbkiaaZA
set_option linter.unusedVariables false
set_option linter.unusedSimpArgs false
set_option maxRecDepth 20000
set_option maxHeartbeats 2000000
namespace Go.Proofs.Ytidijnfkcpbkiaa
open Go Go.Mx Go.Proofs
/-- journal.Parts -/
def journal_Parts.M (n1 : Int) (R : Value → World → Prop) (w : World) : Prop :=
 bif decide (n1 < 0) then (
 R (.int .i64 0) w) else (
 bif decide (n1 > 4000) then (
 R (.int .i64 0) w) else (
 48 ≠ (0 : Int) ∧ R (.int .i64 (if (1 : Int) > (IntKind.i64.wrap (Int.tdiv (IntKind.i64.wrap ((IntKind.i64.wrap (n1 + 48)) - 1)) 48)) then 1 else (IntKind.i64.wrap (Int.tdiv (IntKind.i64.wrap ((IntKind.i64.wrap (n1 + 48)) - 1)) 48)))) w))

theorem journal_Parts.eq (n1 : Int) (R : Value → World → Prop) (w : World) : mfunc Try.prog [] 28 [.int .i64 n1] R w = journal_Parts.M n1 R w := by kernel_rfl
theorem journal_Parts.ok (n1 : Int) {R : Value → World → Prop} {w : World} (h : journal_Parts.M n1 R w) : Calls Try.prog 28 #[.int .i64 n1] w fun e w' => ∃ v, e = .returned v ∧ R v w' :=
  mfunc_ok follows (H := []) (args := [.int .i64 n1]) (by rw [journal_Parts.eq]; exact h)

def journal_Parts.N (n1 : Int) (R : Value → World → Prop) (w : World) : Prop :=
 (n1 < 0 →
 R (.int .i64 0) w) ∧
 ((0 : Int) ≤ n1 →
 (n1 > 4000 →
 R (.int .i64 0) w) ∧
 (n1 ≤ 4000 →
 R (.int .i64 (if (1 : Int) > (IntKind.i64.wrap (Int.tdiv (IntKind.i64.wrap ((IntKind.i64.wrap (n1 + 48)) - 1)) 48)) then 1 else (IntKind.i64.wrap (Int.tdiv (IntKind.i64.wrap ((IntKind.i64.wrap (n1 + 48)) - 1)) 48)))) w))

theorem journal_Parts.up (n1 : Int) {R : Value → World → Prop} {w : World} (h : journal_Parts.N n1 R w) : journal_Parts.M n1 R w := by
  unfold journal_Parts.M
  unfold journal_Parts.N at h
  refine bif_of (fun c2 => ?_) (fun c2 => ?_)
  · have h := h.1 (of_decide_eq_true c2)
    exact h
  · have h := h.2 (Int.not_lt.1 (of_decide_eq_false c2))
    refine bif_of (fun c3 => ?_) (fun c3 => ?_)
    · have h := h.1 (of_decide_eq_true c3)
      exact h
    · have h := h.2 (Int.not_lt.1 (of_decide_eq_false c3))
      refine ⟨by decide, ?_⟩
      exact h

theorem journal_Parts.go (n1 : Int) {R : Value → World → Prop} {w : World} (h : journal_Parts.N n1 R w) : Calls Try.prog 28 #[.int .i64 n1] w fun e w' => ∃ v, e = .returned v ∧ R v w' := journal_Parts.ok n1 (journal_Parts.up n1 h)
theorem journal_Parts.run (n1 : Int) {V : Value} {Q : World → Prop} {w : World} (h : journal_Parts.N n1 (fun v w' => v = V ∧ Q w') w) : Calls Try.prog 28 #[.int .i64 n1] w (Ret V Q) := (journal_Parts.go n1 h).mono fun e w' ⟨v, he, hv, hq⟩ => ⟨by rw [he, hv], hq⟩

def journal_Parts.F (n1 : Int) : Int :=
  if n1 < 0 then
    0
  else
    if n1 > 4000 then
      0
    else
      (if (1 : Int) > (IntKind.i64.wrap (Int.tdiv (IntKind.i64.wrap ((IntKind.i64.wrap (n1 + 48)) - 1)) 48)) then 1 else (IntKind.i64.wrap (Int.tdiv (IntKind.i64.wrap ((IntKind.i64.wrap (n1 + 48)) - 1)) 48)))
theorem journal_Parts.pure (n1 : Int) {w : World} : Calls Try.prog 28 #[.int .i64 n1] w (Ret (.int .i64 (journal_Parts.F n1)) fun w' => Ext no w w') := by
  refine journal_Parts.run n1 ?_
  unfold journal_Parts.N
  refine ⟨fun c0 => ?_, fun c0 => ?_⟩
  · exact ⟨by unfold journal_Parts.F; rw [if_pos c0], Ext.refl _ _⟩
  · refine ⟨fun c1 => ?_, fun c1 => ?_⟩
    · exact ⟨by unfold journal_Parts.F; rw [if_neg (show ¬ (n1 < 0) from by omega), if_pos c1], Ext.refl _ _⟩
    · exact ⟨by unfold journal_Parts.F; rw [if_neg (show ¬ (n1 < 0) from by omega), if_neg (show ¬ (n1 > 4000) from by omega)], Ext.refl _ _⟩

/-- cachetteref10.Parts -/
def cachetteref10_Parts.M (n1 : Int) (R : Value → World → Prop) (w : World) : Prop :=
 bif decide (n1 < 0) then (
 R (.int .i64 0) w) else (
 bif decide (n1 > 4000) then (
 R (.int .i64 0) w) else (
 bif n1 == 0 then (
 R (.int .i64 1) w) else (
 48 ≠ (0 : Int) ∧ R (.int .i64 (IntKind.i64.wrap (Int.tdiv (IntKind.i64.wrap (n1 + 47)) 48))) w)))

theorem cachetteref10_Parts.eq (n1 : Int) (R : Value → World → Prop) (w : World) : mfunc Try.prog [] 9 [.int .i64 n1] R w = cachetteref10_Parts.M n1 R w := by kernel_rfl
theorem cachetteref10_Parts.ok (n1 : Int) {R : Value → World → Prop} {w : World} (h : cachetteref10_Parts.M n1 R w) : Calls Try.prog 9 #[.int .i64 n1] w fun e w' => ∃ v, e = .returned v ∧ R v w' :=
  mfunc_ok follows (H := []) (args := [.int .i64 n1]) (by rw [cachetteref10_Parts.eq]; exact h)

def cachetteref10_Parts.N (n1 : Int) (R : Value → World → Prop) (w : World) : Prop :=
 (n1 < 0 →
 R (.int .i64 0) w) ∧
 ((0 : Int) ≤ n1 →
 (n1 > 4000 →
 R (.int .i64 0) w) ∧
 (n1 ≤ 4000 →
 (n1 = 0 →
 R (.int .i64 1) w) ∧
 (n1 ≠ 0 →
 R (.int .i64 (IntKind.i64.wrap (Int.tdiv (IntKind.i64.wrap (n1 + 47)) 48))) w)))

theorem cachetteref10_Parts.up (n1 : Int) {R : Value → World → Prop} {w : World} (h : cachetteref10_Parts.N n1 R w) : cachetteref10_Parts.M n1 R w := by
  unfold cachetteref10_Parts.M
  unfold cachetteref10_Parts.N at h
  refine bif_of (fun c2 => ?_) (fun c2 => ?_)
  · have h := h.1 (of_decide_eq_true c2)
    exact h
  · have h := h.2 (Int.not_lt.1 (of_decide_eq_false c2))
    refine bif_of (fun c3 => ?_) (fun c3 => ?_)
    · have h := h.1 (of_decide_eq_true c3)
      exact h
    · have h := h.2 (Int.not_lt.1 (of_decide_eq_false c3))
      refine bif_of (fun c4 => ?_) (fun c4 => ?_)
      · have h := h.1 (beq_t c4)
        exact h
      · have h := h.2 (beq_f c4)
        refine ⟨by decide, ?_⟩
        exact h

theorem cachetteref10_Parts.go (n1 : Int) {R : Value → World → Prop} {w : World} (h : cachetteref10_Parts.N n1 R w) : Calls Try.prog 9 #[.int .i64 n1] w fun e w' => ∃ v, e = .returned v ∧ R v w' := cachetteref10_Parts.ok n1 (cachetteref10_Parts.up n1 h)
theorem cachetteref10_Parts.run (n1 : Int) {V : Value} {Q : World → Prop} {w : World} (h : cachetteref10_Parts.N n1 (fun v w' => v = V ∧ Q w') w) : Calls Try.prog 9 #[.int .i64 n1] w (Ret V Q) := (cachetteref10_Parts.go n1 h).mono fun e w' ⟨v, he, hv, hq⟩ => ⟨by rw [he, hv], hq⟩

def cachetteref10_Parts.F (n1 : Int) : Int :=
  if n1 < 0 then
    0
  else
    if n1 > 4000 then
      0
    else
      if n1 = 0 then
        1
      else
        (IntKind.i64.wrap (Int.tdiv (IntKind.i64.wrap (n1 + 47)) 48))
theorem cachetteref10_Parts.pure (n1 : Int) {w : World} : Calls Try.prog 9 #[.int .i64 n1] w (Ret (.int .i64 (cachetteref10_Parts.F n1)) fun w' => Ext no w w') := by
  refine cachetteref10_Parts.run n1 ?_
  unfold cachetteref10_Parts.N
  refine ⟨fun c0 => ?_, fun c0 => ?_⟩
  · exact ⟨by unfold cachetteref10_Parts.F; rw [if_pos c0], Ext.refl _ _⟩
  · refine ⟨fun c1 => ?_, fun c1 => ?_⟩
    · exact ⟨by unfold cachetteref10_Parts.F; rw [if_neg (show ¬ (n1 < 0) from by omega), if_pos c1], Ext.refl _ _⟩
    · refine ⟨fun c2 => ?_, fun c2 => ?_⟩
      · exact ⟨by unfold cachetteref10_Parts.F; rw [if_neg (show ¬ (n1 < 0) from by omega), if_neg (show ¬ (n1 > 4000) from by omega), if_pos c2], Ext.refl _ _⟩
      · exact ⟨by unfold cachetteref10_Parts.F; rw [if_neg (show ¬ (n1 < 0) from by omega), if_neg (show ¬ (n1 > 4000) from by omega), if_neg c2], Ext.refl _ _⟩

/-- (*journal.sector).put -/
def journal_sector_put.M (s1 : Option Addr) (ab : Option Addr) (aa : Nat) (ac : Nat) (R : Value → World → Prop) (w : World) : Prop :=
 s1.elim False fun a3 =>
 ∃ (a1 : Option Addr) (a6 : Nat) (a5 : Nat), w.cell? a3 = some (.slice a1 a6 a5) ∧
 ∃ (a8 : Option Addr) (a4 : Nat) (a2 : Nat) (a0 : World), (Builtin.append_ #[98, 30] 98 #[.slice a1 a6 a5, .slice ab aa ac]).run Try.prog w = .ok (.slice a8 a4 a2) a0 ∧
 s1.elim False fun a7 =>
 canStore a0 (a7.add 0) ∧
 thenW (a0.setCell (a7.add 0) (.slice a8 a4 a2)) fun a9 =>
 R (.tuple #[]) a9

theorem journal_sector_put.eq (s1 : Option Addr) (l2a : Option Addr) (l2n : Nat) (l2c : Nat) (R : Value → World → Prop) (w : World) : mfunc Try.prog [] 60 [.pointer s1, .slice l2a l2n l2c] R w = journal_sector_put.M s1 l2a l2n l2c R w := by kernel_rfl
theorem journal_sector_put.ok (s1 : Option Addr) (a1 : Option Addr) (a2 : Nat) (a0 : Nat) {R : Value → World → Prop} {w : World} (h : journal_sector_put.M s1 a1 a2 a0 R w) : Calls Try.prog 60 #[.pointer s1, .slice a1 a2 a0] w fun e w' => ∃ v, e = .returned v ∧ R v w' :=
  mfunc_ok follows (H := []) (args := [.pointer s1, .slice a1 a2 a0]) (by rw [journal_sector_put.eq]; exact h)

def journal_sector_put.N (s1 : Option Addr) (aa : Option Addr) (a9 : Nat) (ab : Nat) (R : Value → World → Prop) (w : World) : Prop :=
 ∃ a3 : Addr, s1 = some a3 ∧
 ∃ (a1 : Option Addr) (a4 : Nat) (a2 : Nat), w.cell? a3 = some (.slice a1 a4 a2) ∧
 ∃ (a5 : Option Addr) (a6 : Nat) (a7 : Nat) (a0 : World), (Builtin.append_ #[98, 30] 98 #[.slice a1 a4 a2, .slice aa a9 ab]).run Try.prog w = .ok (.slice a5 a6 a7) a0 ∧
 canStore a0 (a3.add 0) ∧
 thenW (a0.setCell (a3.add 0) (.slice a5 a6 a7)) fun a8 =>
 R (.tuple #[]) a8

theorem journal_sector_put.up (s1 : Option Addr) (a2 : Option Addr) (a0 : Nat) (a4 : Nat) {R : Value → World → Prop} {w : World} (h : journal_sector_put.N s1 a2 a0 a4 R w) : journal_sector_put.M s1 a2 a0 a4 R w := by
  unfold journal_sector_put.M
  unfold journal_sector_put.N at h
  obtain ⟨a3, a1, h⟩ := h
  refine elim_some a1 ?_
  obtain ⟨a5, a7, a6, aa, h⟩ := h
  refine ⟨a5, a7, a6, aa, ?_⟩
  obtain ⟨a8, a9, ab, ac, hr, h⟩ := h
  refine ⟨a8, a9, ab, ac, hr, ?_⟩
  refine elim_some a1 ?_
  obtain ⟨hcs, h⟩ := h
  refine ⟨hcs, thenW_in fun ad e8 => ?_⟩
  replace h := thenW_out h e8
  exact h

theorem journal_sector_put.go (s1 : Option Addr) (a1 : Option Addr) (a2 : Nat) (a0 : Nat) {R : Value → World → Prop} {w : World} (h : journal_sector_put.N s1 a1 a2 a0 R w) : Calls Try.prog 60 #[.pointer s1, .slice a1 a2 a0] w fun e w' => ∃ v, e = .returned v ∧ R v w' := journal_sector_put.ok s1 a1 a2 a0 (journal_sector_put.up s1 a1 a2 a0 h)
theorem journal_sector_put.run (s1 : Option Addr) (a1 : Option Addr) (a2 : Nat) (a0 : Nat) {V : Value} {Q : World → Prop} {w : World} (h : journal_sector_put.N s1 a1 a2 a0 (fun v w' => v = V ∧ Q w') w) : Calls Try.prog 60 #[.pointer s1, .slice a1 a2 a0] w (Ret V Q) := (journal_sector_put.go s1 a1 a2 a0 h).mono fun e w' ⟨v, he, hv, hq⟩ => ⟨by rw [he, hv], hq⟩

/-- (*journal.sector).number -/
def journal_sector_number.M (s1 : Option Addr) (n2 : Int) (R : Value → World → Prop) (w : World) : Prop :=
 0 ≤ (24 : Int) ∧
 0 ≤ (16 : Int) ∧
 0 ≤ (8 : Int) ∧
 thenW (w.alloc (.cells #[.int .u8 (IntKind.u8.wrap (Int.fdiv n2 (2 ^ (min (Int.toNat 24) (IntKind.bits .u32))))), .int .u8 (IntKind.u8.wrap (Int.fdiv n2 (2 ^ (min (Int.toNat 16) (IntKind.bits .u32))))), .int .u8 (IntKind.u8.wrap (Int.fdiv n2 (2 ^ (min (Int.toNat 8) (IntKind.bits .u32))))), .int .u8 (IntKind.u8.wrap n2)] 5)) fun a1 =>
 Calls Try.prog 60 #[.pointer s1, .slice (some (blk w.heap.size)) 4 4] a1 fun a2 a0 => a2 = .returned (.tuple #[]) ∧
 R (.tuple #[]) a0

theorem journal_sector_number.eq (s1 : Option Addr) (n2 : Int) (R : Value → World → Prop) (w : World) : mfunc Try.prog [] 61 [.pointer s1, .int .u32 n2] R w = journal_sector_number.M s1 n2 R w := by kernel_rfl
theorem journal_sector_number.ok (s1 : Option Addr) (n2 : Int) {R : Value → World → Prop} {w : World} (h : journal_sector_number.M s1 n2 R w) : Calls Try.prog 61 #[.pointer s1, .int .u32 n2] w fun e w' => ∃ v, e = .returned v ∧ R v w' :=
  mfunc_ok follows (H := []) (args := [.pointer s1, .int .u32 n2]) (by rw [journal_sector_number.eq]; exact h)

def journal_sector_number.N (s1 : Option Addr) (n2 : Int) (R : Value → World → Prop) (w : World) : Prop :=
 ∀ (a0 : World) (q4 : Nat), Ext no w a0 → Blk a0 q4 5 [.int .u8 (IntKind.u8.wrap (n2 / 16777216)), .int .u8 (IntKind.u8.wrap (n2 / 65536)), .int .u8 (IntKind.u8.wrap (n2 / 256)), .int .u8 (IntKind.u8.wrap n2)] → w.heap.size ≤ q4 → q4 < a0.heap.size →
 Calls Try.prog 60 #[.pointer s1, .slice (some (blk q4)) 4 4] a0 fun a2 a1 => a2 = .returned (.tuple #[]) ∧
 R (.tuple #[]) a1

theorem journal_sector_number.up (s1 : Option Addr) (n2 : Int) {R : Value → World → Prop} {w : World} (h : journal_sector_number.N s1 n2 R w) : journal_sector_number.M s1 n2 R w := by
  unfold journal_sector_number.M
  unfold journal_sector_number.N at h
  refine ⟨by decide, ?_⟩
  try rw [show (2 ^ (min (Int.toNat 24) (IntKind.bits .u32)) : Int) = 16777216 from rfl]
  try rw [Int.fdiv_eq_ediv_of_nonneg n2 (by decide : (0 : Int) ≤ 16777216)]
  refine ⟨by decide, ?_⟩
  try rw [show (2 ^ (min (Int.toNat 16) (IntKind.bits .u32)) : Int) = 65536 from rfl]
  try rw [Int.fdiv_eq_ediv_of_nonneg n2 (by decide : (0 : Int) ≤ 65536)]
  refine ⟨by decide, ?_⟩
  try rw [show (2 ^ (min (Int.toNat 8) (IntKind.bits .u32)) : Int) = 256 from rfl]
  try rw [Int.fdiv_eq_ediv_of_nonneg n2 (by decide : (0 : Int) ≤ 256)]
  refine thenW_in fun a0 e3 => ?_
  have h := h a0 w.heap.size ((Ext.refl no w).x_alloc e3) (Blk.of_new e3) ((Ext.refl no w)).size (size_lt_alloc e3)
  refine h.mono fun a2 a1 h => ?_
  obtain ⟨he, h⟩ := h
  refine ⟨he, ?_⟩
  exact h

theorem journal_sector_number.go (s1 : Option Addr) (n2 : Int) {R : Value → World → Prop} {w : World} (h : journal_sector_number.N s1 n2 R w) : Calls Try.prog 61 #[.pointer s1, .int .u32 n2] w fun e w' => ∃ v, e = .returned v ∧ R v w' := journal_sector_number.ok s1 n2 (journal_sector_number.up s1 n2 h)
theorem journal_sector_number.run (s1 : Option Addr) (n2 : Int) {V : Value} {Q : World → Prop} {w : World} (h : journal_sector_number.N s1 n2 (fun v w' => v = V ∧ Q w') w) : Calls Try.prog 61 #[.pointer s1, .int .u32 n2] w (Ret V Q) := (journal_sector_number.go s1 n2 h).mono fun e w' ⟨v, he, hv, hq⟩ => ⟨by rw [he, hv], hq⟩

/-- (journal.sector).at -/
def journal_sector_at.M (a3 : Option Addr) (a4 : Nat) (a1 : Nat) (i2 : Int) (R : Value → World → Prop) (w : World) : Prop :=
 (0 : Int) ≤ ((IntKind.i64.wrap (i2 + 4)) : Int) ∧ ((IntKind.i64.wrap (i2 + 4)) : Int) ≤ (a1 : Int) ∧ (0 : Int) ≤ (i2 : Int) ∧ (i2 : Int) ≤ ((IntKind.i64.wrap (i2 + 4)) : Int) ∧
 ∃ (I0 : Nat → List Value → World → Prop) (m5 : Nat), I0 m5 [.int .u32 0, .int .i64 0] w ∧ ∀ (m6 : Nat) (a0 : World) (n3 : Int) (t4 : Int), I0 m6 [.int .u32 n3, .int .i64 t4] a0 →
 bif decide (t4 < (((Int.toNat (IntKind.i64.wrap (i2 + 4))) - (Int.toNat i2) : Nat) : Int)) then (
 (if a1 = Int.toNat i2 then a3 else Option.map (fun z : Addr => z.add ((Int.toNat i2) * 1)) a3).elim False fun a8 =>
 0 ≤ (t4 : Int) ∧ (t4 : Int) < (((Int.toNat (IntKind.i64.wrap (i2 + 4))) - (Int.toNat i2) : Nat) : Int) ∧
 ∃ (x9 : Int), a0.cell? (a8.add (Int.toNat t4 * 1)) = some (.int .u8 x9) ∧
 0 ≤ (8 : Int) ∧
 ∃ a2, a2 < m6 ∧ I0 a2 [.int .u32 (IntKind.u32.wrap ((BitVec.ofInt (IntKind.bits .u32) (IntKind.u32.wrap (n3 * 2 ^ (min (Int.toNat 8) (IntKind.bits .u32)))) ||| BitVec.ofInt (IntKind.bits .u32) (IntKind.u32.wrap x9)).toNat)), .int .i64 (IntKind.i64.wrap (t4 + 1))] a0) else (
 R (.int .u32 n3) a0)

theorem journal_sector_at.eq (s1a : Option Addr) (s1n : Nat) (s1c : Nat) (i2 : Int) (R : Value → World → Prop) (w : World) : mfunc Try.prog [(0, [11, 12], [(4, (.one (.int .u32))), (13, (.one (.int .i64)))])] 59 [.slice s1a s1n s1c, .int .i64 i2] R w = journal_sector_at.M s1a s1n s1c i2 R w := by kernel_rfl
theorem journal_sector_at.ok (a0 : Option Addr) (a1 : Nat) (a2 : Nat) (i2 : Int) {R : Value → World → Prop} {w : World} (h : journal_sector_at.M a0 a1 a2 i2 R w) : Calls Try.prog 59 #[.slice a0 a1 a2, .int .i64 i2] w fun e w' => ∃ v, e = .returned v ∧ R v w' :=
  mfunc_ok follows (H := [(0, [11, 12], [(4, (.one (.int .u32))), (13, (.one (.int .i64)))])]) (args := [.slice a0 a1 a2, .int .i64 i2]) (by rw [journal_sector_at.eq]; exact h)

def journal_sector_at.N (a4 : Option Addr) (a5 : Nat) (a1 : Nat) (i2 : Int) (R : Value → World → Prop) (w : World) : Prop :=
 (-9223372036854775808 : Int) ≤ (i2 + 4) ∧ (i2 + 4) < 9223372036854775808 ∧
 (0 : Int) ≤ ((i2 + 4) : Int) ∧ ((i2 + 4) : Int) ≤ (a1 : Int) ∧ (0 : Int) ≤ (i2 : Int) ∧ (i2 : Int) ≤ ((i2 + 4) : Int) ∧ 
 ∃ (I0 : Nat → List Value → World → Prop) (m5 : Nat), I0 m5 [.int .u32 0, .int .i64 0] w ∧ ∀ (m6 : Nat) (a0 : World) (n3 : Int) (t4 : Int), I0 m6 [.int .u32 n3, .int .i64 t4] a0 →
 (t4 < (((Int.toNat (i2 + 4)) - (Int.toNat i2) : Nat) : Int) →
 ∃ a9 : Addr, cutA a4 a1 (Int.toNat i2) 1 = some a9 ∧
 0 ≤ (t4 : Int) ∧ (t4 : Int) < (((Int.toNat (i2 + 4)) - (Int.toNat i2) : Nat) : Int) ∧
 ∃ (a3 : Int), a0.cell? (a9.add (Int.toNat t4 * 1)) = some (.int .u8 a3) ∧
 (-9223372036854775808 : Int) ≤ (t4 + 1) ∧ (t4 + 1) < 9223372036854775808 ∧
 ∃ a2, a2 < m6 ∧ I0 a2 [.int .u32 (IntKind.u32.wrap ((BitVec.ofInt (IntKind.bits .u32) (IntKind.u32.wrap (n3 * 256)) ||| BitVec.ofInt (IntKind.bits .u32) (IntKind.u32.wrap a3)).toNat)), .int .i64 (t4 + 1)] a0) ∧
 ((((Int.toNat (i2 + 4)) - (Int.toNat i2) : Nat) : Int) ≤ t4 →
 R (.int .u32 n3) a0)

theorem journal_sector_at.up (a7 : Option Addr) (a5 : Nat) (a6 : Nat) (i2 : Int) {R : Value → World → Prop} {w : World} (h : journal_sector_at.N a7 a5 a6 i2 R w) : journal_sector_at.M a7 a5 a6 i2 R w := by
  unfold journal_sector_at.M
  unfold journal_sector_at.N at h
  obtain ⟨a1, a2, h⟩ := h
  try rw [w64 a1 a2]
  obtain ⟨aa, a3, a0, a8, h⟩ := h
  refine ⟨aa, a3, a0, a8, ?_⟩
  obtain ⟨I0, m5, h0, h⟩ := h
  refine ⟨I0, m5, h0, fun m6 ac n3 t4 hI => ?_⟩
  have h := h m6 ac n3 t4 hI
  refine bif_of (fun c8 => ?_) (fun c8 => ?_)
  · have h := h.1 (of_decide_eq_true c8)
    obtain ⟨a9, ad, h⟩ := h
    refine elim_some ad ?_
    obtain ⟨a3, a0, h⟩ := h
    refine ⟨a3, a0, ?_⟩
    obtain ⟨ae, a4, h⟩ := h
    refine ⟨ae, a4, ?_⟩
    refine ⟨by decide, ?_⟩
    try rw [show (2 ^ (min (Int.toNat 8) (IntKind.bits .u32)) : Int) = 256 from rfl]
    obtain ⟨a1, a2, h⟩ := h
    try rw [w64 a1 a2]
    obtain ⟨ab, hk, h⟩ := h
    exact ⟨ab, hk, h⟩
  · have h := h.2 (Int.not_lt.1 (of_decide_eq_false c8))
    exact h

theorem journal_sector_at.go (a0 : Option Addr) (a1 : Nat) (a2 : Nat) (i2 : Int) {R : Value → World → Prop} {w : World} (h : journal_sector_at.N a0 a1 a2 i2 R w) : Calls Try.prog 59 #[.slice a0 a1 a2, .int .i64 i2] w fun e w' => ∃ v, e = .returned v ∧ R v w' := journal_sector_at.ok a0 a1 a2 i2 (journal_sector_at.up a0 a1 a2 i2 h)
theorem journal_sector_at.run (a0 : Option Addr) (a1 : Nat) (a2 : Nat) (i2 : Int) {V : Value} {Q : World → Prop} {w : World} (h : journal_sector_at.N a0 a1 a2 i2 (fun v w' => v = V ∧ Q w') w) : Calls Try.prog 59 #[.slice a0 a1 a2, .int .i64 i2] w (Ret V Q) := (journal_sector_at.go a0 a1 a2 i2 h).mono fun e w' ⟨v, he, hv, hq⟩ => ⟨by rw [he, hv], hq⟩

/-- (journal.sector).is -/
def journal_sector_is.M (a1 : Option Addr) (a0 : Nat) (a3 : Nat) (R : Value → World → Prop) (w : World) : Prop :=
 bif (a0 : Int) == 64 then (
 a1.elim False fun a2 =>
 0 ≤ (0 : Int) ∧ (0 : Int) < (a0 : Int) ∧
 ∃ (x3 : Int), w.cell? (a2.add (Int.toNat 0 * 1)) = some (.int .u8 x3) ∧
 R (.bool (x3 == 197)) w) else (
 R (.bool false) w)

theorem journal_sector_is.eq (s1a : Option Addr) (s1n : Nat) (s1c : Nat) (R : Value → World → Prop) (w : World) : mfunc Try.prog [] 58 [.slice s1a s1n s1c] R w = journal_sector_is.M s1a s1n s1c R w := by kernel_rfl
theorem journal_sector_is.ok (a0 : Option Addr) (a1 : Nat) (a2 : Nat) {R : Value → World → Prop} {w : World} (h : journal_sector_is.M a0 a1 a2 R w) : Calls Try.prog 58 #[.slice a0 a1 a2] w fun e w' => ∃ v, e = .returned v ∧ R v w' :=
  mfunc_ok follows (H := []) (args := [.slice a0 a1 a2]) (by rw [journal_sector_is.eq]; exact h)

def journal_sector_is.N (a1 : Option Addr) (a0 : Nat) (a2 : Nat) (R : Value → World → Prop) (w : World) : Prop :=
 ((a0 : Int) = 64 →
 ∃ a3 : Addr, a1 = some a3 ∧
 (0 : Int) < (a0 : Int) ∧
 ∃ (x5 : Int), w.cell? (a3.add (Int.toNat 0 * 1)) = some (.int .u8 x5) ∧
 R (.bool (x5 == 197)) w) ∧
 ((a0 : Int) ≠ 64 →
 R (.bool false) w)

theorem journal_sector_is.up (a2 : Option Addr) (a0 : Nat) (a1 : Nat) {R : Value → World → Prop} {w : World} (h : journal_sector_is.N a2 a0 a1 R w) : journal_sector_is.M a2 a0 a1 R w := by
  unfold journal_sector_is.M
  unfold journal_sector_is.N at h
  refine bif_of (fun c2 => ?_) (fun c2 => ?_)
  · have h := h.1 (beq_t c2)
    obtain ⟨a3, a5, h⟩ := h
    refine elim_some a5 ?_
    obtain ⟨a4, h⟩ := h
    refine ⟨by decide, a4, ?_⟩
    obtain ⟨x5, a6, h⟩ := h
    refine ⟨x5, a6, ?_⟩
    exact h
  · have h := h.2 (beq_f c2)
    exact h

theorem journal_sector_is.go (a0 : Option Addr) (a1 : Nat) (a2 : Nat) {R : Value → World → Prop} {w : World} (h : journal_sector_is.N a0 a1 a2 R w) : Calls Try.prog 58 #[.slice a0 a1 a2] w fun e w' => ∃ v, e = .returned v ∧ R v w' := journal_sector_is.ok a0 a1 a2 (journal_sector_is.up a0 a1 a2 h)
theorem journal_sector_is.run (a0 : Option Addr) (a1 : Nat) (a2 : Nat) {V : Value} {Q : World → Prop} {w : World} (h : journal_sector_is.N a0 a1 a2 (fun v w' => v = V ∧ Q w') w) : Calls Try.prog 58 #[.slice a0 a1 a2] w (Ret V Q) := (journal_sector_is.go a0 a1 a2 h).mono fun e w' ⟨v, he, hv, hq⟩ => ⟨by rw [he, hv], hq⟩

/-- journal.Frame -/
def journal_Frame.M (ab : Int) (a5 : Int) (ay : Int) (b6 : Option Addr) (a6 : Nat) (av : Nat) (R : Value → World → Prop) (w : World) : Prop :=
 Calls Try.prog 28 #[.int .i64 (a6 : Int)] w fun b8 am => ∃ (a1 : Int), b8 = .returned (.int .i64 a1) ∧
 bif a1 == 0 then (
 R (.tuple #[.slice none 0 0, .int .i64 3]) am) else (
 bif ab == 0 then (
 R (.tuple #[.slice none 0 0, .int .i64 1]) am) else (
 bif a5 == 0 then (
 R (.tuple #[.slice none 0 0, .int .i64 1]) am) else (
 ∃ (I1 : Nat → List Value → World → Prop) (b9 : Nat), I1 b9 [.slice none 0 0, .int .i64 0] am ∧ ∀ (b5 : Nat) (a8 : World) (a4 : Option Addr) (a2 : Nat) (a3 : Nat) (t9 : Int), I1 b5 [.slice a4 a2 a3, .int .i64 t9] a8 →
 bif decide (t9 < a1) then (
 (0 : Int) ≤ ((if ((a6 : Int) : Int) < (IntKind.i64.wrap ((48 : Int) * (IntKind.i64.wrap (t9 + 1)))) then (a6 : Int) else (IntKind.i64.wrap ((48 : Int) * (IntKind.i64.wrap (t9 + 1))))) : Int) ∧ ((if ((a6 : Int) : Int) < (IntKind.i64.wrap ((48 : Int) * (IntKind.i64.wrap (t9 + 1)))) then (a6 : Int) else (IntKind.i64.wrap ((48 : Int) * (IntKind.i64.wrap (t9 + 1))))) : Int) ≤ (av : Int) ∧ (0 : Int) ≤ ((IntKind.i64.wrap ((48 : Int) * t9)) : Int) ∧ ((IntKind.i64.wrap ((48 : Int) * t9)) : Int) ≤ ((if ((a6 : Int) : Int) < (IntKind.i64.wrap ((48 : Int) * (IntKind.i64.wrap (t9 + 1)))) then (a6 : Int) else (IntKind.i64.wrap ((48 : Int) * (IntKind.i64.wrap (t9 + 1))))) : Int) ∧
 ∃ (ae : Option Addr) (ah : Nat) (ak : Nat) (a0 : World), (Instr.makeSlice 98 (.int .i64 0) (.int .i64 64)).run Try.prog a8 = .ok (.slice ae ah ak) a0 ∧
 thenW (a0.alloc (.cells #[.slice none 0 0] 98)) fun af =>
 canStore af ((blk a0.heap.size).add 0) ∧
 thenW (af.setCell ((blk a0.heap.size).add 0) (.slice ae ah ak)) fun aj =>
 thenW (aj.alloc (.cells #[.int .u8 197] 5)) fun an =>
 Calls Try.prog 60 #[.pointer (some (blk a0.heap.size)), .slice (some (blk aj.heap.size)) 1 1] an fun b2 ar => b2 = .returned (.tuple #[]) ∧
 Calls Try.prog 61 #[.pointer (some (blk a0.heap.size)), .int .u32 ab] ar fun b1 ap => b1 = .returned (.tuple #[]) ∧
 Calls Try.prog 61 #[.pointer (some (blk a0.heap.size)), .int .u32 a5] ap fun ao aq => ao = .returned (.tuple #[]) ∧
 Calls Try.prog 61 #[.pointer (some (blk a0.heap.size)), .int .u32 ay] aq fun ax ai => ax = .returned (.tuple #[]) ∧
 thenW (ai.alloc (.cells #[.int .u8 (IntKind.u8.wrap t9), .int .u8 (IntKind.u8.wrap a1), .int .u8 (IntKind.u8.wrap (((Int.toNat (if ((a6 : Int) : Int) < (IntKind.i64.wrap ((48 : Int) * (IntKind.i64.wrap (t9 + 1)))) then (a6 : Int) else (IntKind.i64.wrap ((48 : Int) * (IntKind.i64.wrap (t9 + 1)))))) - (Int.toNat (IntKind.i64.wrap ((48 : Int) * t9))) : Nat) : Int))] 5)) fun au =>
 Calls Try.prog 60 #[.pointer (some (blk a0.heap.size)), .slice (some (blk ai.heap.size)) 3 3] au fun aw az => aw = .returned (.tuple #[]) ∧
 Calls Try.prog 60 #[.pointer (some (blk a0.heap.size)), .slice (if av = Int.toNat (IntKind.i64.wrap ((48 : Int) * t9)) then b6 else Option.map (fun z : Addr => z.add ((Int.toNat (IntKind.i64.wrap ((48 : Int) * t9))) * 1)) b6) ((Int.toNat (if ((a6 : Int) : Int) < (IntKind.i64.wrap ((48 : Int) * (IntKind.i64.wrap (t9 + 1)))) then (a6 : Int) else (IntKind.i64.wrap ((48 : Int) * (IntKind.i64.wrap (t9 + 1)))))) - (Int.toNat (IntKind.i64.wrap ((48 : Int) * t9)))) (av - (Int.toNat (IntKind.i64.wrap ((48 : Int) * t9))))] az fun b0 a9 => b0 = .returned (.tuple #[]) ∧
 ∃ (aa : Option Addr) (b3 : Nat) (a7 : Nat), a9.cell? (blk a0.heap.size) = some (.slice aa b3 a7) ∧
 (0 : Int) ≤ (64 : Int) ∧ (64 : Int) ≤ (a7 : Int) ∧
 thenW (a9.alloc (.cells #[.slice (if a7 = 0 then aa else Option.map (fun z : Addr => z.add (0 * 1)) aa) ((Int.toNat 64) - 0) (a7 - 0)] 30)) fun b4 =>
 ∃ (ag : Option Addr) (ad : Nat) (ac : Nat) (al : World), (Builtin.append_ #[31, 31] 31 #[.slice a4 a2 a3, .slice (some (blk a9.heap.size)) 1 1]).run Try.prog b4 = .ok (.slice ag ad ac) al ∧
 ∃ b7, b7 < b5 ∧ I1 b7 [.slice ag ad ac, .int .i64 (IntKind.i64.wrap (t9 + 1))] al) else (
 R (.tuple #[.slice a4 a2 a3, .int .i64 0]) a8))))

theorem journal_Frame.eq (gen1 : Int) (round2 : Int) (seq3 : Int) (b4a : Option Addr) (b4n : Nat) (b4c : Nat) (R : Value → World → Prop) (w : World) : mfunc Try.prog [(1, [0, 1, 2, 3, 10, 28], [(8, (.one .slice)), (29, (.one (.int .i64)))])] 53 [.int .u32 gen1, .int .u32 round2, .int .u32 seq3, .slice b4a b4n b4c] R w = journal_Frame.M gen1 round2 seq3 b4a b4n b4c R w := by kernel_rfl
theorem journal_Frame.ok (a1 : Int) (a0 : Int) (a2 : Int) (a5 : Option Addr) (a4 : Nat) (a3 : Nat) {R : Value → World → Prop} {w : World} (h : journal_Frame.M a1 a0 a2 a5 a4 a3 R w) : Calls Try.prog 53 #[.int .u32 a1, .int .u32 a0, .int .u32 a2, .slice a5 a4 a3] w fun e w' => ∃ v, e = .returned v ∧ R v w' :=
  mfunc_ok follows (H := [(1, [0, 1, 2, 3, 10, 28], [(8, (.one .slice)), (29, (.one (.int .i64)))])]) (args := [.int .u32 a1, .int .u32 a0, .int .u32 a2, .slice a5 a4 a3]) (by rw [journal_Frame.eq]; exact h)

def journal_Frame.N (ad : Int) (a1 : Int) (b5 : Int) (bc : Option Addr) (a5 : Nat) (b0 : Nat) (R : Value → World → Prop) (w : World) : Prop :=
 ((journal_Parts.F (a5 : Int)) = 0 →
 ∀ (a8 : World), Ext no w a8 →
 R (.tuple #[.slice none 0 0, .int .i64 3]) a8) ∧
 ((journal_Parts.F (a5 : Int)) ≠ 0 →
 (ad = 0 →
 ∀ (a8 : World), Ext no w a8 →
 R (.tuple #[.slice none 0 0, .int .i64 1]) a8) ∧
 (ad ≠ 0 →
 (a1 = 0 →
 ∀ (a8 : World), Ext no w a8 →
 R (.tuple #[.slice none 0 0, .int .i64 1]) a8) ∧
 (a1 ≠ 0 →
 ∀ (a8 : World), Ext no w a8 →
 ∃ (I1 : Nat → List Value → World → Prop) (bb : Nat), I1 bb [.slice none 0 0, .int .i64 0] a8 ∧ ∀ (ba : Nat) (ag : World) (a4 : Option Addr) (a3 : Nat) (a2 : Nat) (a0 : Int), I1 ba [.slice a4 a3 a2, .int .i64 a0] ag →
 (a0 < (journal_Parts.F (a5 : Int)) →
 (-9223372036854775808 : Int) ≤ ((48 : Int) * a0) ∧ ((48 : Int) * a0) < 9223372036854775808 ∧
 (-9223372036854775808 : Int) ≤ (a0 + 1) ∧ (a0 + 1) < 9223372036854775808 ∧
 (-9223372036854775808 : Int) ≤ ((48 : Int) * (a0 + 1)) ∧ ((48 : Int) * (a0 + 1)) < 9223372036854775808 ∧
 (0 : Int) ≤ ((if ((a5 : Int) : Int) < ((48 : Int) * (a0 + 1)) then (a5 : Int) else ((48 : Int) * (a0 + 1))) : Int) ∧ ((if ((a5 : Int) : Int) < ((48 : Int) * (a0 + 1)) then (a5 : Int) else ((48 : Int) * (a0 + 1))) : Int) ≤ (b0 : Int) ∧ (0 : Int) ≤ (((48 : Int) * a0) : Int) ∧ (((48 : Int) * a0) : Int) ≤ ((if ((a5 : Int) : Int) < ((48 : Int) * (a0 + 1)) then (a5 : Int) else ((48 : Int) * (a0 + 1))) : Int) ∧ 
 ∃ (al : Option Addr) (ap : Nat) (an : Nat) (af : World), (Instr.makeSlice 98 (.int .i64 0) (.int .i64 64)).run Try.prog ag = .ok (.slice al ap an) af ∧
 ∀ (a7 : World) (a6 : Nat), Ext no af a7 → Blk a7 a6 98 [.slice none 0 0] → af.heap.size ≤ a6 → a6 < a7.heap.size →
 canStore a7 ((blk a6).add 0) ∧
 thenW (a7.setCell ((blk a6).add 0) (.slice al ap an)) fun ai =>
 ∀ (aa : World) (av : Nat), Ext no ai aa → Blk aa av 5 [.int .u8 197] → ai.heap.size ≤ av → av < aa.heap.size →
 Calls Try.prog 60 #[.pointer (some (blk a6)), .slice (some (blk av)) 1 1] aa fun aw ax => aw = .returned (.tuple #[]) ∧
 Calls Try.prog 61 #[.pointer (some (blk a6)), .int .u32 ad] ax fun b4 b6 => b4 = .returned (.tuple #[]) ∧
 Calls Try.prog 61 #[.pointer (some (blk a6)), .int .u32 a1] b6 fun b1 az => b1 = .returned (.tuple #[]) ∧
 Calls Try.prog 61 #[.pointer (some (blk a6)), .int .u32 b5] az fun b8 ao => b8 = .returned (.tuple #[]) ∧
 ∀ (ab : World) (ar : Nat), Ext no ao ab → Blk ab ar 5 [.int .u8 (IntKind.u8.wrap a0), .int .u8 (IntKind.u8.wrap (journal_Parts.F (a5 : Int))), .int .u8 (IntKind.u8.wrap (((Int.toNat (if ((a5 : Int) : Int) < ((48 : Int) * (a0 + 1)) then (a5 : Int) else ((48 : Int) * (a0 + 1)))) - (Int.toNat ((48 : Int) * a0)) : Nat) : Int))] → ao.heap.size ≤ ar → ar < ab.heap.size →
 Calls Try.prog 60 #[.pointer (some (blk a6)), .slice (some (blk ar)) 3 3] ab fun b3 b2 => b3 = .returned (.tuple #[]) ∧
 Calls Try.prog 60 #[.pointer (some (blk a6)), .slice (cutA bc b0 (Int.toNat ((48 : Int) * a0)) 1) ((Int.toNat (if ((a5 : Int) : Int) < ((48 : Int) * (a0 + 1)) then (a5 : Int) else ((48 : Int) * (a0 + 1)))) - (Int.toNat ((48 : Int) * a0))) (b0 - (Int.toNat ((48 : Int) * a0)))] b2 fun b7 ae => b7 = .returned (.tuple #[]) ∧
 ∃ (aj : Option Addr) (ay : Nat) (ac : Nat), ae.cell? (blk a6) = some (.slice aj ay ac) ∧
 (64 : Int) ≤ (ac : Int) ∧ 
 ∀ (a9 : World) (au : Nat), Ext no ae a9 → Blk a9 au 30 [.slice aj 64 ac] → ae.heap.size ≤ au → au < a9.heap.size →
 ∃ (ak : Option Addr) (ah : Nat) (aq : Nat) (am : World), (Builtin.append_ #[31, 31] 31 #[.slice a4 a3 a2, .slice (some (blk au)) 1 1]).run Try.prog a9 = .ok (.slice ak ah aq) am ∧
 (-9223372036854775808 : Int) ≤ (a0 + 1) ∧ (a0 + 1) < 9223372036854775808 ∧
 ∃ b9, b9 < ba ∧ I1 b9 [.slice ak ah aq, .int .i64 (a0 + 1)] am) ∧
 ((journal_Parts.F (a5 : Int)) ≤ a0 →
 R (.tuple #[.slice a4 a3 a2, .int .i64 0]) ag))))

theorem journal_Frame.up (aa : Int) (a0 : Int) (ab : Int) (b3 : Option Addr) (ac : Nat) (b2 : Nat) {R : Value → World → Prop} {w : World} (h : journal_Frame.N aa a0 ab b3 ac b2 R w) : journal_Frame.M aa a0 ab b3 ac b2 R w := by
  unfold journal_Frame.M
  unfold journal_Frame.N at h
  refine (journal_Parts.pure (ac : Int)).mono fun ee ww5 ⟨he, hxx⟩ => ⟨(journal_Parts.F (ac : Int)), he, ?_⟩
  have ad := (Ext.refl no w).trans hxx
  refine bif_of (fun c6 => ?_) (fun c6 => ?_)
  · have h := h.1 (beq_t c6)
    have h := h ww5 ad
    exact h
  · have h := h.2 (beq_f c6)
    refine bif_of (fun c7 => ?_) (fun c7 => ?_)
    · have h := h.1 (beq_t c7)
      have h := h ww5 ad
      exact h
    · have h := h.2 (beq_f c7)
      refine bif_of (fun c8 => ?_) (fun c8 => ?_)
      · have h := h.1 (beq_t c8)
        have h := h ww5 ad
        exact h
      · have h := h.2 (beq_f c8)
        have h := h ww5 ad
        obtain ⟨I1, ba, h0, h⟩ := h
        refine ⟨I1, ba, h0, fun bi b1 a8 a6 a5 b6 hI => ?_⟩
        have h := h bi b1 a8 a6 a5 b6 hI
        refine bif_of (fun ai => ?_) (fun ai => ?_)
        · have h := h.1 (of_decide_eq_true ai)
          obtain ⟨a7, a4, h⟩ := h
          try rw [w64 a7 a4]
          obtain ⟨a7, a4, h⟩ := h
          try rw [w64 a7 a4]
          obtain ⟨a7, a4, h⟩ := h
          try rw [w64 a7 a4]
          obtain ⟨bf, aw, b4, bk, h⟩ := h
          refine ⟨bf, aw, b4, bk, ?_⟩
          obtain ⟨ap, ax, au, a1, hr, h⟩ := h
          refine ⟨ap, ax, au, a1, hr, ?_⟩
          refine thenW_in fun ae az => ?_
          have h := h ae a1.heap.size ((Ext.refl no a1).x_alloc az) (Blk.of_new az) ((Ext.refl no a1)).size (size_lt_alloc az)
          obtain ⟨hcs, h⟩ := h
          refine ⟨hcs, thenW_in fun a2 bc => ?_⟩
          replace h := thenW_out h bc
          refine thenW_in fun ar ah => ?_
          have h := h ar a2.heap.size ((Ext.refl no a2).x_alloc ah) (Blk.of_new ah) ((Ext.refl no a2)).size (size_lt_alloc ah)
          refine h.mono fun b5 b7 h => ?_
          obtain ⟨he, h⟩ := h
          refine ⟨he, ?_⟩
          refine h.mono fun bg bh h => ?_
          obtain ⟨he, h⟩ := h
          refine ⟨he, ?_⟩
          refine h.mono fun bb b9 h => ?_
          obtain ⟨he, h⟩ := h
          refine ⟨he, ?_⟩
          refine h.mono fun bl a9 h => ?_
          obtain ⟨he, h⟩ := h
          refine ⟨he, ?_⟩
          refine thenW_in fun av an => ?_
          have h := h av a9.heap.size ((Ext.refl no a9).x_alloc an) (Blk.of_new an) ((Ext.refl no a9)).size (size_lt_alloc an)
          refine h.mono fun bd be h => ?_
          obtain ⟨he, h⟩ := h
          refine ⟨he, ?_⟩
          refine h.mono fun bj a3 h => ?_
          obtain ⟨he, h⟩ := h
          refine ⟨he, ?_⟩
          obtain ⟨am, al, af, ag, h⟩ := h
          refine ⟨am, al, af, ag, ?_⟩
          obtain ⟨aw, h⟩ := h
          refine ⟨by decide, aw, ?_⟩
          try rw [cut_zero]
          refine thenW_in fun aj ay => ?_
          have h := h aj a3.heap.size ((Ext.refl no a3).x_alloc ay) (Blk.of_new ay) ((Ext.refl no a3)).size (size_lt_alloc ay)
          obtain ⟨ao, ak, b0, aq, hr, h⟩ := h
          refine ⟨ao, ak, b0, aq, hr, ?_⟩
          obtain ⟨a7, a4, h⟩ := h
          try rw [w64 a7 a4]
          obtain ⟨b8, hk, h⟩ := h
          exact ⟨b8, hk, h⟩
        · have h := h.2 (Int.not_lt.1 (of_decide_eq_false ai))
          exact h

theorem journal_Frame.go (a1 : Int) (a0 : Int) (a2 : Int) (a5 : Option Addr) (a4 : Nat) (a3 : Nat) {R : Value → World → Prop} {w : World} (h : journal_Frame.N a1 a0 a2 a5 a4 a3 R w) : Calls Try.prog 53 #[.int .u32 a1, .int .u32 a0, .int .u32 a2, .slice a5 a4 a3] w fun e w' => ∃ v, e = .returned v ∧ R v w' := journal_Frame.ok a1 a0 a2 a5 a4 a3 (journal_Frame.up a1 a0 a2 a5 a4 a3 h)
/-- cachetteref10.four -/
def cachetteref10_four.M (n1 : Int) (R : Value → World → Prop) (w : World) : Prop :=
 16777216 ≠ (0 : Int) ∧ 65536 ≠ (0 : Int) ∧ 256 ≠ (0 : Int) ∧ 256 ≠ (0 : Int) ∧ 256 ≠ (0 : Int) ∧ 256 ≠ (0 : Int) ∧ thenW (w.alloc (.cells #[.int .u8 (IntKind.u8.wrap (IntKind.u32.wrap (Int.tdiv n1 16777216))), .int .u8 (IntKind.u8.wrap (Int.tmod (IntKind.u32.wrap (Int.tdiv n1 65536)) 256)), .int .u8 (IntKind.u8.wrap (Int.tmod (IntKind.u32.wrap (Int.tdiv n1 256)) 256)), .int .u8 (IntKind.u8.wrap (Int.tmod n1 256))] 5)) fun a0 =>
 R (.slice (some (blk w.heap.size)) 4 4) a0

theorem cachetteref10_four.eq (n1 : Int) (R : Value → World → Prop) (w : World) : mfunc Try.prog [] 65 [.int .u32 n1] R w = cachetteref10_four.M n1 R w := by kernel_rfl
theorem cachetteref10_four.ok (n1 : Int) {R : Value → World → Prop} {w : World} (h : cachetteref10_four.M n1 R w) : Calls Try.prog 65 #[.int .u32 n1] w fun e w' => ∃ v, e = .returned v ∧ R v w' :=
  mfunc_ok follows (H := []) (args := [.int .u32 n1]) (by rw [cachetteref10_four.eq]; exact h)

def cachetteref10_four.N (n1 : Int) (R : Value → World → Prop) (w : World) : Prop :=
 ∀ (a0 : World) (q3 : Nat), Ext no w a0 → Blk a0 q3 5 [.int .u8 (IntKind.u8.wrap (IntKind.u32.wrap (Int.tdiv n1 16777216))), .int .u8 (IntKind.u8.wrap (Int.tmod (IntKind.u32.wrap (Int.tdiv n1 65536)) 256)), .int .u8 (IntKind.u8.wrap (Int.tmod (IntKind.u32.wrap (Int.tdiv n1 256)) 256)), .int .u8 (IntKind.u8.wrap (Int.tmod n1 256))] → w.heap.size ≤ q3 → q3 < a0.heap.size →
 R (.slice (some (blk q3)) 4 4) a0

theorem cachetteref10_four.up (n1 : Int) {R : Value → World → Prop} {w : World} (h : cachetteref10_four.N n1 R w) : cachetteref10_four.M n1 R w := by
  unfold cachetteref10_four.M
  unfold cachetteref10_four.N at h
  refine ⟨by decide, ?_⟩
  refine ⟨by decide, ?_⟩
  refine ⟨by decide, ?_⟩
  refine ⟨by decide, ?_⟩
  refine ⟨by decide, ?_⟩
  refine ⟨by decide, ?_⟩
  refine thenW_in fun a0 e2 => ?_
  have h := h a0 w.heap.size ((Ext.refl no w).x_alloc e2) (Blk.of_new e2) ((Ext.refl no w)).size (size_lt_alloc e2)
  exact h

theorem cachetteref10_four.go (n1 : Int) {R : Value → World → Prop} {w : World} (h : cachetteref10_four.N n1 R w) : Calls Try.prog 65 #[.int .u32 n1] w fun e w' => ∃ v, e = .returned v ∧ R v w' := cachetteref10_four.ok n1 (cachetteref10_four.up n1 h)
/-- cachetteref10.number -/
def cachetteref10_number.M (a2 : Option Addr) (a1 : Nat) (a6 : Nat) (R : Value → World → Prop) (w : World) : Prop :=
 thenW (w.drew) fun a0 =>
 a2.elim False fun a3 =>
 0 ≤ (0 : Int) ∧ (0 : Int) < (a1 : Int) ∧
 ∃ (x4 : Int), a0.cell? (a3.add (Int.toNat 0 * 1)) = some (.int .u8 x4) ∧
 a2.elim False fun a5 =>
 0 ≤ (1 : Int) ∧ (1 : Int) < (a1 : Int) ∧
 ∃ (x6 : Int), a0.cell? (a5.add (Int.toNat 1 * 1)) = some (.int .u8 x6) ∧
 a2.elim False fun a7 =>
 0 ≤ (2 : Int) ∧ (2 : Int) < (a1 : Int) ∧
 ∃ (x8 : Int), a0.cell? (a7.add (Int.toNat 2 * 1)) = some (.int .u8 x8) ∧
 a2.elim False fun a9 =>
 0 ≤ (3 : Int) ∧ (3 : Int) < (a1 : Int) ∧
 ∃ (a4 : Int), a0.cell? (a9.add (Int.toNat 3 * 1)) = some (.int .u8 a4) ∧
 R (.int .u32 (IntKind.u32.wrap ((IntKind.u32.wrap ((IntKind.u32.wrap ((IntKind.u32.wrap ((IntKind.u32.wrap x4) * 16777216)) + (IntKind.u32.wrap ((IntKind.u32.wrap x6) * 65536)))) + (IntKind.u32.wrap ((IntKind.u32.wrap x8) * 256)))) + (IntKind.u32.wrap a4)))) a0

theorem cachetteref10_number.eq (b1a : Option Addr) (b1n : Nat) (b1c : Nat) (R : Value → World → Prop) (w : World) : mfunc Try.prog [] 56 [.slice b1a b1n b1c] R w = cachetteref10_number.M b1a b1n b1c R w := by kernel_rfl
theorem cachetteref10_number.ok (a2 : Option Addr) (a0 : Nat) (a1 : Nat) {R : Value → World → Prop} {w : World} (h : cachetteref10_number.M a2 a0 a1 R w) : Calls Try.prog 56 #[.slice a2 a0 a1] w fun e w' => ∃ v, e = .returned v ∧ R v w' :=
  mfunc_ok follows (H := []) (args := [.slice a2 a0 a1]) (by rw [cachetteref10_number.eq]; exact h)

def cachetteref10_number.N (a4 : Option Addr) (a0 : Nat) (a5 : Nat) (R : Value → World → Prop) (w : World) : Prop :=
 ∃ a3 : Addr, a4 = some a3 ∧
 (0 : Int) < (a0 : Int) ∧
 ∃ (x5 : Int), w.cell? (a3.add (Int.toNat 0 * 1)) = some (.int .u8 x5) ∧
 (1 : Int) < (a0 : Int) ∧
 ∃ (x7 : Int), w.cell? (a3.add (Int.toNat 1 * 1)) = some (.int .u8 x7) ∧
 (2 : Int) < (a0 : Int) ∧
 ∃ (x9 : Int), w.cell? (a3.add (Int.toNat 2 * 1)) = some (.int .u8 x9) ∧
 (3 : Int) < (a0 : Int) ∧
 ∃ (a2 : Int), w.cell? (a3.add (Int.toNat 3 * 1)) = some (.int .u8 a2) ∧
 ∀ (a1 : World), Ext no w a1 →
 R (.int .u32 (IntKind.u32.wrap ((IntKind.u32.wrap ((IntKind.u32.wrap ((IntKind.u32.wrap ((IntKind.u32.wrap x5) * 16777216)) + (IntKind.u32.wrap ((IntKind.u32.wrap x7) * 65536)))) + (IntKind.u32.wrap ((IntKind.u32.wrap x9) * 256)))) + (IntKind.u32.wrap a2)))) a1

theorem cachetteref10_number.up (a7 : Option Addr) (a5 : Nat) (a6 : Nat) {R : Value → World → Prop} {w : World} (h : cachetteref10_number.N a7 a5 a6 R w) : cachetteref10_number.M a7 a5 a6 R w := by
  unfold cachetteref10_number.M
  unfold cachetteref10_number.N at h
  refine thenW_in fun aa e2 => ?_
  have a1 := (Ext.refl no w).x_drew e2
  obtain ⟨a3, a2, h⟩ := h
  refine elim_some a2 ?_
  obtain ⟨a0, h⟩ := h
  refine ⟨by decide, a0, ?_⟩
  obtain ⟨x5, a9, h⟩ := h
  refine ⟨x5, (a1).cell a9 id, ?_⟩
  refine elim_some a2 ?_
  obtain ⟨a0, h⟩ := h
  refine ⟨by decide, a0, ?_⟩
  obtain ⟨x7, a8, h⟩ := h
  refine ⟨x7, (a1).cell a8 id, ?_⟩
  refine elim_some a2 ?_
  obtain ⟨a0, h⟩ := h
  refine ⟨by decide, a0, ?_⟩
  obtain ⟨x9, ab, h⟩ := h
  refine ⟨x9, (a1).cell ab id, ?_⟩
  refine elim_some a2 ?_
  obtain ⟨a0, h⟩ := h
  refine ⟨by decide, a0, ?_⟩
  obtain ⟨ac, a4, h⟩ := h
  refine ⟨ac, (a1).cell a4 id, ?_⟩
  have h := h aa a1
  exact h

theorem cachetteref10_number.go (a2 : Option Addr) (a0 : Nat) (a1 : Nat) {R : Value → World → Prop} {w : World} (h : cachetteref10_number.N a2 a0 a1 R w) : Calls Try.prog 56 #[.slice a2 a0 a1] w fun e w' => ∃ v, e = .returned v ∧ R v w' := cachetteref10_number.ok a2 a0 a1 (cachetteref10_number.up a2 a0 a1 h)
theorem cachetteref10_number.run (a2 : Option Addr) (a0 : Nat) (a1 : Nat) {V : Value} {Q : World → Prop} {w : World} (h : cachetteref10_number.N a2 a0 a1 (fun v w' => v = V ∧ Q w') w) : Calls Try.prog 56 #[.slice a2 a0 a1] w (Ret V Q) := (cachetteref10_number.go a2 a0 a1 h).mono fun e w' ⟨v, he, hv, hq⟩ => ⟨by rw [he, hv], hq⟩

/-- cachetteref10.Frame -/
def cachetteref10_Frame.M (ap : Int) (ae : Int) (bj : Int) (bu : Option Addr) (ad : Nat) (bi : Nat) (R : Value → World → Prop) (w : World) : Prop :=
 bif decide ((ad : Int) > 4000) then (
 R (.tuple #[.slice none 0 0, .int .i64 3]) w) else (
 bif ap == 0 then (
 R (.tuple #[.slice none 0 0, .int .i64 1]) w) else (
 bif ae == 0 then (
 R (.tuple #[.slice none 0 0, .int .i64 1]) w) else (
 Calls Try.prog 9 #[.int .i64 (ad : Int)] w fun bx bw => ∃ (a3 : Int), bx = .returned (.int .i64 a3) ∧
 ∃ (I0 : Nat → List Value → World → Prop) (bz : Nat), I0 bz [.slice none 0 0, .int .i64 0] bw ∧ ∀ (br : Nat) (ag : World) (a2 : Option Addr) (a0 : Nat) (a1 : Nat) (i9 : Int), I0 br [.slice a2 a0 a1, .int .i64 i9] ag →
 bif decide (i9 < a3) then (
 (0 : Int) ≤ ((if ((ad : Int) : Int) < (IntKind.i64.wrap ((IntKind.i64.wrap ((48 : Int) * i9)) + 48)) then (ad : Int) else (IntKind.i64.wrap ((IntKind.i64.wrap ((48 : Int) * i9)) + 48))) : Int) ∧ ((if ((ad : Int) : Int) < (IntKind.i64.wrap ((IntKind.i64.wrap ((48 : Int) * i9)) + 48)) then (ad : Int) else (IntKind.i64.wrap ((IntKind.i64.wrap ((48 : Int) * i9)) + 48))) : Int) ≤ (bi : Int) ∧ (0 : Int) ≤ ((IntKind.i64.wrap ((48 : Int) * i9)) : Int) ∧ ((IntKind.i64.wrap ((48 : Int) * i9)) : Int) ≤ ((if ((ad : Int) : Int) < (IntKind.i64.wrap ((IntKind.i64.wrap ((48 : Int) * i9)) + 48)) then (ad : Int) else (IntKind.i64.wrap ((IntKind.i64.wrap ((48 : Int) * i9)) + 48))) : Int) ∧
 thenW (ag.alloc (.cells #[.int .u8 197] 5)) fun bq =>
 Calls Try.prog 65 #[.int .u32 ap] bq fun bn bl => ∃ (a7 : Option Addr) (a5 : Nat) (ac : Nat), bn = .returned (.slice a7 a5 ac) ∧
 ∃ (aq : Option Addr) (am : Nat) (ay : Nat) (b4 : World), (Builtin.append_ #[30, 30] 30 #[.slice (some (blk ag.heap.size)) 1 1, .slice a7 a5 ac]).run Try.prog bl = .ok (.slice aq am ay) b4 ∧
 Calls Try.prog 65 #[.int .u32 ae] b4 fun bp bf => ∃ (a6 : Option Addr) (ab : Nat) (a9 : Nat), bp = .returned (.slice a6 ab a9) ∧
 ∃ (b9 : Option Addr) (al : Nat) (az : Nat) (an : World), (Builtin.append_ #[30, 30] 30 #[.slice aq am ay, .slice a6 ab a9]).run Try.prog bf = .ok (.slice b9 al az) an ∧
 Calls Try.prog 65 #[.int .u32 bj] an fun bm bh => ∃ (a4 : Option Addr) (a8 : Nat) (aa : Nat), bm = .returned (.slice a4 a8 aa) ∧
 ∃ (b0 : Option Addr) (ba : Nat) (bb : Nat) (aj : World), (Builtin.append_ #[30, 30] 30 #[.slice b9 al az, .slice a4 a8 aa]).run Try.prog bh = .ok (.slice b0 ba bb) aj ∧
 thenW (aj.alloc (.cells #[.int .u8 (IntKind.u8.wrap i9), .int .u8 (IntKind.u8.wrap a3), .int .u8 (IntKind.u8.wrap (((Int.toNat (if ((ad : Int) : Int) < (IntKind.i64.wrap ((IntKind.i64.wrap ((48 : Int) * i9)) + 48)) then (ad : Int) else (IntKind.i64.wrap ((IntKind.i64.wrap ((48 : Int) * i9)) + 48)))) - (Int.toNat (IntKind.i64.wrap ((48 : Int) * i9))) : Nat) : Int))] 5)) fun bo =>
 ∃ (bc : Option Addr) (b2 : Nat) (b7 : Nat) (aw : World), (Builtin.append_ #[30, 30] 30 #[.slice b0 ba bb, .slice (some (blk aj.heap.size)) 3 3]).run Try.prog bo = .ok (.slice bc b2 b7) aw ∧
 ∃ (ao : Option Addr) (bd : Nat) (b1 : Nat) (ax : World), (Builtin.append_ #[30, 30] 30 #[.slice bc b2 b7, .slice (if bi = Int.toNat (IntKind.i64.wrap ((48 : Int) * i9)) then bu else Option.map (fun z : Addr => z.add ((Int.toNat (IntKind.i64.wrap ((48 : Int) * i9))) * 1)) bu) ((Int.toNat (if ((ad : Int) : Int) < (IntKind.i64.wrap ((IntKind.i64.wrap ((48 : Int) * i9)) + 48)) then (ad : Int) else (IntKind.i64.wrap ((IntKind.i64.wrap ((48 : Int) * i9)) + 48)))) - (Int.toNat (IntKind.i64.wrap ((48 : Int) * i9)))) (bi - (Int.toNat (IntKind.i64.wrap ((48 : Int) * i9))))]).run Try.prog aw = .ok (.slice ao bd b1) ax ∧
 ∃ (I2 : Nat → List Value → World → Prop) (c0 : Nat), I2 c0 [.slice ao bd b1] ax ∧ ∀ (bt : Nat) (af : World) (ai : Option Addr) (ah : Nat) (ak : Nat), I2 bt [.slice ai ah ak] af →
 bif decide ((ah : Int) < 64) then (
 thenW (af.alloc (.cells #[.int .u8 0] 5)) fun bg =>
 ∃ (b5 : Option Addr) (b3 : Nat) (au : Nat) (b6 : World), (Builtin.append_ #[30, 30] 30 #[.slice ai ah ak, .slice (some (blk af.heap.size)) 1 1]).run Try.prog bg = .ok (.slice b5 b3 au) b6 ∧
 ∃ bv, bv < bt ∧ I2 bv [.slice b5 b3 au] b6) else (
 thenW (af.alloc (.cells #[.slice ai ah ak] 30)) fun bk =>
 ∃ (b8 : Option Addr) (ar : Nat) (be : Nat) (av : World), (Builtin.append_ #[31, 31] 31 #[.slice a2 a0 a1, .slice (some (blk af.heap.size)) 1 1]).run Try.prog bk = .ok (.slice b8 ar be) av ∧
 ∃ bs, bs < br ∧ I0 bs [.slice b8 ar be, .int .i64 (IntKind.i64.wrap (i9 + 1))] av)) else (
 R (.tuple #[.slice a2 a0 a1, .int .i64 0]) ag))))

theorem cachetteref10_Frame.eq (gen1 : Int) (round2 : Int) (seq3 : Int) (b4a : Option Addr) (b4n : Nat) (b4c : Nat) (R : Value → World → Prop) (w : World) : mfunc Try.prog [(0, [0, 1, 2, 3, 11], [(10, (.one .slice)), (12, (.one (.int .i64)))]), (2, [0, 1, 2, 3, 10, 11, 12], [(14, (.one .slice))])] 62 [.int .u32 gen1, .int .u32 round2, .int .u32 seq3, .slice b4a b4n b4c] R w = cachetteref10_Frame.M gen1 round2 seq3 b4a b4n b4c R w := by kernel_rfl
theorem cachetteref10_Frame.ok (a1 : Int) (a0 : Int) (a2 : Int) (a5 : Option Addr) (a4 : Nat) (a3 : Nat) {R : Value → World → Prop} {w : World} (h : cachetteref10_Frame.M a1 a0 a2 a5 a4 a3 R w) : Calls Try.prog 62 #[.int .u32 a1, .int .u32 a0, .int .u32 a2, .slice a5 a4 a3] w fun e w' => ∃ v, e = .returned v ∧ R v w' :=
  mfunc_ok follows (H := [(0, [0, 1, 2, 3, 11], [(10, (.one .slice)), (12, (.one (.int .i64)))]), (2, [0, 1, 2, 3, 10, 11, 12], [(14, (.one .slice))])]) (args := [.int .u32 a1, .int .u32 a0, .int .u32 a2, .slice a5 a4 a3]) (by rw [cachetteref10_Frame.eq]; exact h)

def cachetteref10_Frame.N (am : Int) (a1 : Int) (br : Int) (c3 : Option Addr) (a5 : Nat) (bp : Nat) (R : Value → World → Prop) (w : World) : Prop :=
 ((a5 : Int) > 4000 →
 R (.tuple #[.slice none 0 0, .int .i64 3]) w) ∧
 ((a5 : Int) ≤ 4000 →
 (am = 0 →
 R (.tuple #[.slice none 0 0, .int .i64 1]) w) ∧
 (am ≠ 0 →
 (a1 = 0 →
 R (.tuple #[.slice none 0 0, .int .i64 1]) w) ∧
 (a1 ≠ 0 →
 ∀ (bx : World), Ext no w bx →
 ∃ (I0 : Nat → List Value → World → Prop) (c2 : Nat), I0 c2 [.slice none 0 0, .int .i64 0] bx ∧ ∀ (bz : Nat) (al : World) (a4 : Option Addr) (a3 : Nat) (a2 : Nat) (a0 : Int), I0 bz [.slice a4 a3 a2, .int .i64 a0] al →
 (a0 < (cachetteref10_Parts.F (a5 : Int)) →
 (-9223372036854775808 : Int) ≤ ((48 : Int) * a0) ∧ ((48 : Int) * a0) < 9223372036854775808 ∧
 (-9223372036854775808 : Int) ≤ ((48 : Int) * a0) ∧ ((48 : Int) * a0) < 9223372036854775808 ∧
 (-9223372036854775808 : Int) ≤ (((48 : Int) * a0) + 48) ∧ (((48 : Int) * a0) + 48) < 9223372036854775808 ∧
 (0 : Int) ≤ ((if ((a5 : Int) : Int) < (((48 : Int) * a0) + 48) then (a5 : Int) else (((48 : Int) * a0) + 48)) : Int) ∧ ((if ((a5 : Int) : Int) < (((48 : Int) * a0) + 48) then (a5 : Int) else (((48 : Int) * a0) + 48)) : Int) ≤ (bp : Int) ∧ (0 : Int) ≤ (((48 : Int) * a0) : Int) ∧ (((48 : Int) * a0) : Int) ≤ ((if ((a5 : Int) : Int) < (((48 : Int) * a0) + 48) then (a5 : Int) else (((48 : Int) * a0) + 48)) : Int) ∧ 
 ∀ (aj : World) (bm : Nat), Ext no al aj → Blk aj bm 5 [.int .u8 197] → al.heap.size ≤ bm → bm < aj.heap.size →
 Calls Try.prog 65 #[.int .u32 am] aj fun bt bo => ∃ (a8 : Option Addr) (a6 : Nat) (a7 : Nat), bt = .returned (.slice a8 a6 a7) ∧
 ∃ (bc : Option Addr) (aq : Nat) (b8 : Nat) (av : World), (Builtin.append_ #[30, 30] 30 #[.slice (some (blk bm)) 1 1, .slice a8 a6 a7]).run Try.prog bo = .ok (.slice bc aq b8) av ∧
 Calls Try.prog 65 #[.int .u32 a1] av fun bq bn => ∃ (ae : Option Addr) (a9 : Nat) (ab : Nat), bq = .returned (.slice ae a9 ab) ∧
 ∃ (b4 : Option Addr) (b3 : Nat) (au : Nat) (az : World), (Builtin.append_ #[30, 30] 30 #[.slice bc aq b8, .slice ae a9 ab]).run Try.prog bn = .ok (.slice b4 b3 au) az ∧
 Calls Try.prog 65 #[.int .u32 br] az fun bu bs => ∃ (aa : Option Addr) (ad : Nat) (ac : Nat), bu = .returned (.slice aa ad ac) ∧
 ∃ (bh : Option Addr) (ba : Nat) (bg : Nat) (an : World), (Builtin.append_ #[30, 30] 30 #[.slice b4 b3 au, .slice aa ad ac]).run Try.prog bs = .ok (.slice bh ba bg) an ∧
 ∀ (ai : World) (bl : Nat), Ext no an ai → Blk ai bl 5 [.int .u8 (IntKind.u8.wrap a0), .int .u8 (IntKind.u8.wrap (cachetteref10_Parts.F (a5 : Int))), .int .u8 (IntKind.u8.wrap (((Int.toNat (if ((a5 : Int) : Int) < (((48 : Int) * a0) + 48) then (a5 : Int) else (((48 : Int) * a0) + 48))) - (Int.toNat ((48 : Int) * a0)) : Nat) : Int))] → an.heap.size ≤ bl → bl < ai.heap.size →
 ∃ (b1 : Option Addr) (ax : Nat) (bi : Nat) (b0 : World), (Builtin.append_ #[30, 30] 30 #[.slice bh ba bg, .slice (some (blk bl)) 3 3]).run Try.prog ai = .ok (.slice b1 ax bi) b0 ∧
 ∃ (bf : Option Addr) (bd : Nat) (ay : Nat) (b9 : World), (Builtin.append_ #[30, 30] 30 #[.slice b1 ax bi, .slice (cutA c3 bp (Int.toNat ((48 : Int) * a0)) 1) ((Int.toNat (if ((a5 : Int) : Int) < (((48 : Int) * a0) + 48) then (a5 : Int) else (((48 : Int) * a0) + 48))) - (Int.toNat ((48 : Int) * a0))) (bp - (Int.toNat ((48 : Int) * a0)))]).run Try.prog b0 = .ok (.slice bf bd ay) b9 ∧
 ∃ (I2 : Nat → List Value → World → Prop) (c1 : Nat), I2 c1 [.slice bf bd ay] b9 ∧ ∀ (bw : Nat) (af : World) (ao : Option Addr) (ag : Nat) (ap : Nat), I2 bw [.slice ao ag ap] af →
 ((ag : Int) < 64 →
 ∀ (ak : World) (bk : Nat), Ext no af ak → Blk ak bk 5 [.int .u8 0] → af.heap.size ≤ bk → bk < ak.heap.size →
 ∃ (be : Option Addr) (aw : Nat) (b7 : Nat) (b2 : World), (Builtin.append_ #[30, 30] 30 #[.slice ao ag ap, .slice (some (blk bk)) 1 1]).run Try.prog ak = .ok (.slice be aw b7) b2 ∧
 ∃ bv, bv < bw ∧ I2 bv [.slice be aw b7] b2) ∧
 ((64 : Int) ≤ (ag : Int) →
 ∀ (ah : World) (bj : Nat), Ext no af ah → Blk ah bj 30 [.slice ao ag ap] → af.heap.size ≤ bj → bj < ah.heap.size →
 ∃ (bb : Option Addr) (ar : Nat) (b6 : Nat) (b5 : World), (Builtin.append_ #[31, 31] 31 #[.slice a4 a3 a2, .slice (some (blk bj)) 1 1]).run Try.prog ah = .ok (.slice bb ar b6) b5 ∧
 (-9223372036854775808 : Int) ≤ (a0 + 1) ∧ (a0 + 1) < 9223372036854775808 ∧
 ∃ c0, c0 < bz ∧ I0 c0 [.slice bb ar b6, .int .i64 (a0 + 1)] b5)) ∧
 ((cachetteref10_Parts.F (a5 : Int)) ≤ a0 →
 R (.tuple #[.slice a4 a3 a2, .int .i64 0]) al))))

theorem cachetteref10_Frame.up (aj : Int) (a1 : Int) (ai : Int) (bs : Option Addr) (ak : Nat) (br : Nat) {R : Value → World → Prop} {w : World} (h : cachetteref10_Frame.N aj a1 ai bs ak br R w) : cachetteref10_Frame.M aj a1 ai bs ak br R w := by
  unfold cachetteref10_Frame.M
  unfold cachetteref10_Frame.N at h
  refine bif_of (fun c5 => ?_) (fun c5 => ?_)
  · have h := h.1 (of_decide_eq_true c5)
    exact h
  · have h := h.2 (Int.not_lt.1 (of_decide_eq_false c5))
    refine bif_of (fun c6 => ?_) (fun c6 => ?_)
    · have h := h.1 (beq_t c6)
      exact h
    · have h := h.2 (beq_f c6)
      refine bif_of (fun c7 => ?_) (fun c7 => ?_)
      · have h := h.1 (beq_t c7)
        exact h
      · have h := h.2 (beq_f c7)
        refine (cachetteref10_Parts.pure (ak : Int)).mono fun ee ww8 ⟨he, hxx⟩ => ⟨(cachetteref10_Parts.F (ak : Int)), he, ?_⟩
        have c0 := (Ext.refl no w).trans hxx
        have h := h ww8 c0
        obtain ⟨I0, bt, h0, h⟩ := h
        refine ⟨I0, bt, h0, fun bw a5 ah ae ad ce hI => ?_⟩
        have h := h bw a5 ah ae ad ce hI
        refine bif_of (fun bg => ?_) (fun bg => ?_)
        · have h := h.1 (of_decide_eq_true bg)
          obtain ⟨af, ag, h⟩ := h
          try rw [w64 af ag]
          obtain ⟨af, ag, h⟩ := h
          try rw [w64 af ag]
          obtain ⟨af, ag, h⟩ := h
          try rw [w64 af ag]
          obtain ⟨ca, bx, c1, c8, h⟩ := h
          refine ⟨ca, bx, c1, c8, ?_⟩
          refine thenW_in fun ao ap => ?_
          have h := h ao a5.heap.size ((Ext.refl no a5).x_alloc ap) (Blk.of_new ap) ((Ext.refl no a5)).size (size_lt_alloc ap)
          refine h.mono fun bz c4 h => ?_
          obtain ⟨a7, a6, a3, he, h⟩ := h
          refine ⟨a7, a6, a3, he, ?_⟩
          obtain ⟨bb, bf, b9, bi, hr, h⟩ := h
          refine ⟨bb, bf, b9, bi, hr, ?_⟩
          refine h.mono fun bv c2 h => ?_
          obtain ⟨ac, a2, a4, he, h⟩ := h
          refine ⟨ac, a2, a4, he, ?_⟩
          obtain ⟨b7, b6, bh, ax, hr, h⟩ := h
          refine ⟨b7, b6, bh, ax, hr, ?_⟩
          refine h.mono fun c9 cb h => ?_
          obtain ⟨a9, ab, a8, he, h⟩ := h
          refine ⟨a9, ab, a8, he, ?_⟩
          obtain ⟨av, az, bc, aa, hr, h⟩ := h
          refine ⟨av, az, bc, aa, hr, ?_⟩
          refine thenW_in fun bq bp => ?_
          have h := h bq aa.heap.size ((Ext.refl no aa).x_alloc bp) (Blk.of_new bp) ((Ext.refl no aa)).size (size_lt_alloc bp)
          obtain ⟨b5, an, be, bj, hr, h⟩ := h
          refine ⟨b5, an, be, bj, hr, ?_⟩
          obtain ⟨au, aq, b4, ba, hr, h⟩ := h
          refine ⟨au, aq, b4, ba, hr, ?_⟩
          obtain ⟨I2, c3, h0, h⟩ := h
          refine ⟨I2, c3, h0, fun bu a0 bm bo aw hI => ?_⟩
          have h := h bu a0 bm bo aw hI
          refine bif_of (fun b0 => ?_) (fun b0 => ?_)
          · have h := h.1 (of_decide_eq_true b0)
            refine thenW_in fun bd bk => ?_
            have h := h bd a0.heap.size ((Ext.refl no a0).x_alloc bk) (Blk.of_new bk) ((Ext.refl no a0)).size (size_lt_alloc bk)
            obtain ⟨ar, am, b8, bl, hr, h⟩ := h
            refine ⟨ar, am, b8, bl, hr, ?_⟩
            obtain ⟨cd, hk, h⟩ := h
            exact ⟨cd, hk, h⟩
          · have h := h.2 (Int.not_lt.1 (of_decide_eq_false b0))
            refine thenW_in fun b3 b2 => ?_
            have h := h b3 a0.heap.size ((Ext.refl no a0).x_alloc b2) (Blk.of_new b2) ((Ext.refl no a0)).size (size_lt_alloc b2)
            obtain ⟨b1, al, bn, ay, hr, h⟩ := h
            refine ⟨b1, al, bn, ay, hr, ?_⟩
            obtain ⟨af, ag, h⟩ := h
            try rw [w64 af ag]
            obtain ⟨cc, hk, h⟩ := h
            exact ⟨cc, hk, h⟩
        · have h := h.2 (Int.not_lt.1 (of_decide_eq_false bg))
          exact h

theorem cachetteref10_Frame.go (a1 : Int) (a0 : Int) (a2 : Int) (a5 : Option Addr) (a4 : Nat) (a3 : Nat) {R : Value → World → Prop} {w : World} (h : cachetteref10_Frame.N a1 a0 a2 a5 a4 a3 R w) : Calls Try.prog 62 #[.int .u32 a1, .int .u32 a0, .int .u32 a2, .slice a5 a4 a3] w fun e w' => ∃ v, e = .returned v ∧ R v w' := cachetteref10_Frame.ok a1 a0 a2 a5 a4 a3 (cachetteref10_Frame.up a1 a0 a2 a5 a4 a3 h)
/-- cachetteref10.Lists -/
def cachetteref10_Lists.M (ah : Option Addr) (a9 : Nat) (ai : Nat) (af : Option Addr) (ab : Nat) (aj : Nat) (R : Value → World → Prop) (w : World) : Prop :=
 bif (a9 : Int) != (ab : Int) then (
 R (.bool false) w) else (
 ∃ (I0 : Nat → List Value → World → Prop) (m4 : Nat), I0 m4 [.int .i64 0] w ∧ ∀ (m5 : Nat) (a5 : World) (i3 : Int), I0 m5 [.int .i64 i3] a5 →
 bif decide (i3 < (a9 : Int)) then (
 thenW (a5.drew) fun a6 =>
 ah.elim False fun a8 =>
 0 ≤ (i3 : Int) ∧ (i3 : Int) < (a9 : Int) ∧
 ∃ (ac : Option Addr) (ae : Nat) (aa : Nat), a6.cell? (a8.add (Int.toNat i3 * 1)) = some (.slice ac ae aa) ∧
 af.elim False fun ag =>
 0 ≤ (i3 : Int) ∧ (i3 : Int) < (ab : Int) ∧
 ∃ (a1 : Option Addr) (a2 : Nat) (a4 : Nat), a6.cell? (ag.add (Int.toNat i3 * 1)) = some (.slice a1 a2 a4) ∧
 Calls Try.prog 21 #[.slice ac ae aa, .slice a1 a2 a4] a6 fun a7 a3 => ∃ (a0 : Bool), a7 = .returned (.bool a0) ∧
 bif !a0 then (
 R (.bool false) a3) else (
 ∃ ad, ad < m5 ∧ I0 ad [.int .i64 (IntKind.i64.wrap (i3 + 1))] a3)) else (
 R (.bool true) a5))

theorem cachetteref10_Lists.eq (a1a : Option Addr) (a1n : Nat) (a1c : Nat) (b2a : Option Addr) (b2n : Nat) (b2c : Nat) (R : Value → World → Prop) (w : World) : mfunc Try.prog [(0, [0, 1], [(5, (.one (.int .i64)))])] 45 [.slice a1a a1n a1c, .slice b2a b2n b2c] R w = cachetteref10_Lists.M a1a a1n a1c b2a b2n b2c R w := by kernel_rfl
theorem cachetteref10_Lists.ok (a1 : Option Addr) (a0 : Nat) (a4 : Nat) (a5 : Option Addr) (a2 : Nat) (a3 : Nat) {R : Value → World → Prop} {w : World} (h : cachetteref10_Lists.M a1 a0 a4 a5 a2 a3 R w) : Calls Try.prog 45 #[.slice a1 a0 a4, .slice a5 a2 a3] w fun e w' => ∃ v, e = .returned v ∧ R v w' :=
  mfunc_ok follows (H := [(0, [0, 1], [(5, (.one (.int .i64)))])]) (args := [.slice a1 a0 a4, .slice a5 a2 a3]) (by rw [cachetteref10_Lists.eq]; exact h)

def cachetteref10_Lists.N (ah : Option Addr) (a3 : Nat) (ai : Nat) (ag : Option Addr) (aa : Nat) (aj : Nat) (R : Value → World → Prop) (w : World) : Prop :=
 ((a3 : Int) ≠ (aa : Int) →
 R (.bool false) w) ∧
 ((a3 : Int) = (aa : Int) →
 ∃ (I0 : Nat → List Value → World → Prop) (m5 : Nat), I0 m5 [.int .i64 0] w ∧ ∀ (m6 : Nat) (a1 : World) (i4 : Int), I0 m6 [.int .i64 i4] a1 →
 (i4 < (a3 : Int) →
 ∃ af : Addr, ah = some af ∧
 0 ≤ (i4 : Int) ∧ (i4 : Int) < (a3 : Int) ∧
 ∃ (a5 : Option Addr) (a2 : Nat) (a6 : Nat), a1.cell? (af.add (Int.toNat i4 * 1)) = some (.slice a5 a2 a6) ∧
 ∃ ad : Addr, ag = some ad ∧
 0 ≤ (i4 : Int) ∧ (i4 : Int) < (aa : Int) ∧
 ∃ (a8 : Option Addr) (a4 : Nat) (a9 : Nat), a1.cell? (ad.add (Int.toNat i4 * 1)) = some (.slice a8 a4 a9) ∧
 ∀ (ae : World), Ext no a1 ae →
 Calls Try.prog 21 #[.slice a5 a2 a6, .slice a8 a4 a9] ae fun ab a7 => ∃ (a0 : Bool), ab = .returned (.bool a0) ∧
 (a0 = false →
 R (.bool false) a7) ∧
 (a0 = true →
 (-9223372036854775808 : Int) ≤ (i4 + 1) ∧ (i4 + 1) < 9223372036854775808 ∧
 ∃ ac, ac < m6 ∧ I0 ac [.int .i64 (i4 + 1)] a7)) ∧
 ((a3 : Int) ≤ i4 →
 R (.bool true) a1))

theorem cachetteref10_Lists.up (al : Option Addr) (ag : Nat) (ai : Nat) (ak : Option Addr) (ah : Nat) (aj : Nat) {R : Value → World → Prop} {w : World} (h : cachetteref10_Lists.N al ag ai ak ah aj R w) : cachetteref10_Lists.M al ag ai ak ah aj R w := by
  unfold cachetteref10_Lists.M
  unfold cachetteref10_Lists.N at h
  refine bif_of (fun c3 => ?_) (fun c3 => ?_)
  · have h := h.1 (bne_t c3)
    exact h
  · have h := h.2 (bne_f c3)
    obtain ⟨I0, m5, h0, h⟩ := h
    refine ⟨I0, m5, h0, fun m6 af i4 hI => ?_⟩
    have h := h m6 af i4 hI
    refine bif_of (fun c8 => ?_) (fun c8 => ?_)
    · have h := h.1 (of_decide_eq_true c8)
      refine thenW_in fun ar e9 => ?_
      have ab := (Ext.refl no af).x_drew e9
      obtain ⟨av, a4, h⟩ := h
      refine elim_some a4 ?_
      obtain ⟨a9, a2, h⟩ := h
      refine ⟨a9, a2, ?_⟩
      obtain ⟨a6, a3, a8, aa, h⟩ := h
      refine ⟨a6, a3, a8, (ab).cell aa id, ?_⟩
      obtain ⟨au, a1, h⟩ := h
      refine elim_some a1 ?_
      obtain ⟨a9, a2, h⟩ := h
      refine ⟨a9, a2, ?_⟩
      obtain ⟨ad, a5, ae, a7, h⟩ := h
      refine ⟨ad, a5, ae, (ab).cell a7 id, ?_⟩
      have h := h ar ab
      refine h.mono fun ap aq h => ?_
      obtain ⟨a0, he, h⟩ := h
      refine ⟨a0, he, ?_⟩
      refine bif_of (fun ac => ?_) (fun ac => ?_)
      · have h := h.1 (not_t ac)
        exact h
      · have h := h.2 (not_f ac)
        obtain ⟨ao, an, h⟩ := h
        try rw [w64 ao an]
        obtain ⟨am, hk, h⟩ := h
        exact ⟨am, hk, h⟩
    · have h := h.2 (Int.not_lt.1 (of_decide_eq_false c8))
      exact h

theorem cachetteref10_Lists.go (a1 : Option Addr) (a0 : Nat) (a4 : Nat) (a5 : Option Addr) (a2 : Nat) (a3 : Nat) {R : Value → World → Prop} {w : World} (h : cachetteref10_Lists.N a1 a0 a4 a5 a2 a3 R w) : Calls Try.prog 45 #[.slice a1 a0 a4, .slice a5 a2 a3] w fun e w' => ∃ v, e = .returned v ∧ R v w' := cachetteref10_Lists.ok a1 a0 a4 a5 a2 a3 (cachetteref10_Lists.up a1 a0 a4 a5 a2 a3 h)
theorem cachetteref10_Lists.run (a1 : Option Addr) (a0 : Nat) (a4 : Nat) (a5 : Option Addr) (a2 : Nat) (a3 : Nat) {V : Value} {Q : World → Prop} {w : World} (h : cachetteref10_Lists.N a1 a0 a4 a5 a2 a3 (fun v w' => v = V ∧ Q w') w) : Calls Try.prog 45 #[.slice a1 a0 a4, .slice a5 a2 a3] w (Ret V Q) := (cachetteref10_Lists.go a1 a0 a4 a5 a2 a3 h).mono fun e w' ⟨v, he, hv, hq⟩ => ⟨by rw [he, hv], hq⟩

end Go.Proofs.Ytidijnfkcpbkiaa

/- Journal: a record's sectors; the program's Frame. -/
set_option linter.unusedVariables false
set_option linter.unusedSimpArgs false
set_option maxRecDepth 20000
set_option maxHeartbeats 2000000
namespace Go.Proofs.Ytidijnfkcpbkiaa
open Go Go.Mx Go.Proofs
open W (OwnB GivesW)
theorem inf30 : (Try.prog.info? 30).map (fun i => (i.zero, i.size, i.bytes)) = some (some (.slice none 0 0), 1, 24) := by kernel_rfl
theorem wrapU8 (k : Nat) : IntKind.u8.wrap (k : Int) = ((UInt8.ofNat k).toNat : Int) := by
  rw [IntKind.wrap_u8]
  simp
theorem wrapU8i {z : Int} (h : 0 ≤ z) : Value.int .u8 (IntKind.u8.wrap z) = u8V (UInt8.ofNat z.toNat) := by
  obtain ⟨k, rfl⟩ := Int.eq_ofNat_of_zero_le h
  unfold u8V
  rw [wrapU8]; rfl
def be4 (n : Nat) : List UInt8 := [UInt8.ofNat (n / 16777216), UInt8.ofNat (n / 65536), UInt8.ofNat (n / 256), UInt8.ofNat n]
/-- how many parts. -/
def partsN (n : Nat) : Nat := if n > 4000 then 0 else if n = 0 then 1 else (n + 47) / 48
def partsI (n : Int) : Int := if n < 0 then 0 else (partsN n.toNat : Int)
theorem parts_eq {n : Int} (h0 : 0 ≤ n) (h1 : n ≤ 4000) : partsI n = if n = 0 then 1 else (n + 47) / 48 := by
  unfold partsI partsN
  rw [if_neg (by omega), if_neg (by omega)]
  by_cases hz : n = 0
  · subst hz; rfl
  · rw [if_neg (by omega), if_neg hz]
    omega
theorem parts_out {n : Int} (h : n < 0 ∨ n > 4000) : partsI n = 0 := by
  unfold partsI partsN
  by_cases h0 : n < 0
  · rw [if_pos h0]
  · rw [if_neg h0, if_pos (by omega)]; rfl
theorem parts_F (n : Int) : journal_Parts.F n = partsI n := by
  unfold journal_Parts.F
  by_cases h0 : n < 0
  · rw [if_pos h0, parts_out (.inl h0)]
  rw [if_neg h0]
  by_cases h1 : n > 4000
  · rw [if_pos h1, parts_out (.inr h1)]
  rw [if_neg h1, parts_eq (by omega) (by omega), w64 (n := n + 48) (by omega) (by omega), w64 (n := n + 48 - 1) (by omega) (by omega), Int.tdiv_eq_ediv_of_nonneg (by omega), w64 (n := (n + 48 - 1) / 48) (by omega) (by omega)]
  by_cases hz : n = 0
  · subst hz; rfl
  · rw [if_neg hz, if_neg (by omega)]
    omega
theorem refParts_F (n : Int) : cachetteref10_Parts.F n = partsI n := by
  unfold cachetteref10_Parts.F
  by_cases h0 : n < 0
  · rw [if_pos h0, parts_out (.inl h0)]
  rw [if_neg h0]
  by_cases h1 : n > 4000
  · rw [if_pos h1, parts_out (.inr h1)]
  rw [if_neg h1, parts_eq (by omega) (by omega)]
  by_cases hz : n = 0
  · subst hz; rfl
  · rw [if_neg hz, if_neg hz, w64 (n := n + 47) (by omega) (by omega), Int.tdiv_eq_ediv_of_nonneg (by omega), w64 (n := (n + 47) / 48) (by omega) (by omega)]
theorem partsI_nat (n : Nat) : partsI (n : Int) = (partsN n : Int) := by
  unfold partsI
  rw [if_neg (by omega), Int.toNat_natCast]
theorem partsN_le (n : Nat) : partsN n ≤ 84 := by
  unfold partsN
  split
  · omega
  · split
    · omega
    · omega
/-- what a sector begins with. -/
def headL (gen round seq i n k : Nat) : List UInt8 := 197 :: (be4 gen ++ be4 round ++ be4 seq ++ [UInt8.ofNat i, UInt8.ofNat n, UInt8.ofNat k])
theorem headL_len (gen round seq i n k : Nat) : (headL gen round seq i n k).length = 16 := rfl
def secL (gen round seq i n : Nat) (x : List UInt8) : List UInt8 := headL gen round seq i n x.length ++ x ++ List.replicate (48 - x.length) 0
def partL (b : List UInt8) (i : Nat) : List UInt8 := (b.drop (48 * i)).take 48
theorem partL_le (b : List UInt8) (i : Nat) : (partL b i).length ≤ 48 := by unfold partL; rw [List.length_take]; omega
theorem secL_len (gen round seq i n : Nat) {x : List UInt8} (h : x.length ≤ 48) : (secL gen round seq i n x).length = 64 := by
  unfold secL
  rw [List.length_append, List.length_append, headL_len, List.length_replicate]; omega
def frameL (gen round seq : Nat) (b : List UInt8) : List (List UInt8) := (List.range (partsN b.length)).map fun i => secL gen round seq i (partsN b.length) (partL b i)
def frameK (gen round seq : Nat) (b : List UInt8) : List (List UInt8) × Int :=
  if b.length > 4000 then ([], 3) else if gen = 0 ∨ round = 0 then ([], 1) else (frameL gen round seq b, 0)
/-- a list of bytes' rows. -/
def BSok (w : World) (o : Own) (x : BS) : Prop := Row w o x.a (bytesV x.bs) ∧ x.bs.length ≤ x.c
/-- a sector on its way. -/
structure SB (w : World) (q g : Nat) (l : List UInt8) : Prop where
  p : Blk w q 98 [.slice (some (blk g)) l.length 64]
  b : Blk w g 5 (bytesV (l ++ List.replicate (64 - l.length) 0))
  ne : q ≠ g
  le : l.length ≤ 64
section
variable {w w' w1 : World} {o o' : Own} {q g n N : Nat} {K : Nat → Prop} {l x : List UInt8} {xa : Option Addr} {xc : Nat}
theorem BSok.step {x : BS} (h : BSok w o x) (s : Step K w o w' o') : BSok w' o' x := ⟨h.1.step s, h.2⟩
theorem SB.no (h : SB w q g l) (X : Ext no w w') : SB w' q g l := ⟨h.p.ext X id, h.b.ext X id, h.ne, h.le⟩
theorem sec_types (v : Value) : (Builtin.append_ #[98, 30] 98 #[.slice (some (blk g)) n 64, v]).run Try.prog w = (Builtin.append_ #[98, 98] 98 #[.slice (some (blk g)) n 64, v]).run Try.prog w := by
  obtain ⟨i, hi, hz, hs, hb⟩ := info_of W.infU8
  unfold Builtin.append_
  simp [run_underlying Try.underlying98, run_underlying Try.underlying30, sizeOf, typeInfo, hi]
theorem blk_row_set {cur : List Value} {t : TypeId} (h : Blk w g t cur) (new : List Value) : Blk (w.setRow g new.toArray) g t new ∧ Ext (fun b => b = g) w (w.setRow g new.toArray) := by
  refine ⟨?_, rfl, rfl, rfl, by simp, fun k _ hk => setRow_other w g k _ hk⟩
  have := setRow_heap w g _ new.toArray t _ h
  unfold Blk
  exact this
theorem run_put (hS : SB w q g l) (hx : RowAt w xa (bytesV x)) (hl : l.length + x.length ≤ 64) :
    ∃ w', (Builtin.append_ #[98, 30] 98 #[.slice (some (blk g)) l.length 64, .slice xa x.length xc]).run Try.prog w = .ok (.slice (some (blk g)) (l ++ x).length 64) w' ∧
      Blk w' g 5 (bytesV (l ++ x ++ List.replicate (64 - (l ++ x).length) 0)) ∧ Ext (fun b => b = g) w w' := by
  obtain ⟨i, hi, hz, hs, hb⟩ := info_of W.infU8
  have e1 : (l ++ x).length = l.length + x.length := List.length_append
  have hle := hS.le
  rw [sec_types]
  cases xa with
  | none =>
    have : x = [] := by simpa [bytesV] using hx.none_nil
    subst this
    refine ⟨w, ?_, by rw [List.append_nil]; exact hS.b, Ext.refl _ _⟩
    rw [e1]
    simp [Builtin.append_, run_underlying Try.underlying98, sizeOf, typeInfo, hi, Builtin.lenOf, Builtin.firstCells, hle, storeCells]
  | some ad =>
    have hlen : (bytesV (l ++ List.replicate (64 - l.length) 0)).length = 64 := by rw [bytesV_length, List.length_append, List.length_replicate]; omega
    have hr := run_append_room (P := Try.prog) (w := w) 98 98 5 i Try.underlying98 hi g l.length 64 _ hS.b ad x.length xc (bytesV x) (by rw [bytesV_length, hs]; omega) (fun j u hu => hx.at_ hu) (bytesV_one x) hl (by
      rw [hs, bytesV_length, List.size_toArray, hlen]; omega)
    rw [hs, Nat.mul_one, bytesV_length] at hr
    have hnew : (bytesV (l ++ List.replicate (64 - l.length) 0)).toArray.toList.take l.length ++ bytesV x ++ (bytesV (l ++ List.replicate (64 - l.length) 0)).toArray.toList.drop (l.length + x.length) = bytesV (l ++ x ++ List.replicate (64 - (l ++ x).length) 0) := by
      have hb : ∀ n, bytesV (l ++ List.replicate n 0) = bytesV l ++ List.replicate n (u8V 0) := fun n => by simp [bytesV]
      have hb2 : ∀ n, bytesV (l ++ x ++ List.replicate n 0) = bytesV l ++ bytesV x ++ List.replicate n (u8V 0) := fun n => by simp [bytesV]
      rw [hb, hb2]
      have h1 : (bytesV l ++ List.replicate (64 - l.length) (u8V 0)).take l.length = bytesV l := by
        rw [List.take_append_of_le_length (by rw [bytesV_length]; omega), List.take_of_length_le (by rw [bytesV_length]; omega)]
      have h2 : (bytesV l ++ List.replicate (64 - l.length) (u8V 0)).drop (l.length + x.length) = List.replicate (64 - (l ++ x).length) (u8V 0) := by
        rw [← bytesV_length l, List.drop_length_add_append, List.drop_replicate]
        congr 1
        rw [e1, bytesV_length]; omega
      show (bytesV l ++ List.replicate (64 - l.length) (u8V 0)).take l.length ++ bytesV x ++ (bytesV l ++ List.replicate (64 - l.length) (u8V 0)).drop (l.length + x.length) = _
      rw [h1, h2]
    rw [hnew] at hr
    obtain ⟨h1, h2⟩ := blk_row_set hS.b (bytesV (l ++ x ++ List.replicate (64 - (l ++ x).length) 0))
    exact ⟨_, by rw [e1]; rw [e1] at hr; exact hr, h1, h2⟩
theorem put_spec (hS : SB w q g l) (hx : RowAt w xa (bytesV x)) (hl : l.length + x.length ≤ 64) :
    Calls Try.prog 60 #[.pointer (some (blk q)), .slice xa x.length xc] w (Ret (.tuple #[]) fun w' => SB w' q g (l ++ x) ∧ Ext (fun b => b = q ∨ b = g) w w') := by
  refine journal_sector_put.run _ _ _ _ ?_
  unfold journal_sector_put.N
  obtain ⟨w7, hr, hb7, X7⟩ := run_put (xc := xc) hS hx hl
  have hne := hS.ne
  have p7 := hS.p.ext X7 (fun e => hne e)
  refine ⟨_, rfl, _, _, _, hS.p.cella (i := 0) rfl, _, _, _, w7, hr, p7.cana (i := 0) rfl, thenW_in fun w8 e8 => ⟨rfl, ⟨p7.seti 0 rfl e8, hb7.oth rfl (fun e => hne e.symm) e8, hne, by rw [List.length_append]; exact hl⟩, ?_⟩⟩
  exact (X7.mono fun b h _ => .inr h).x_set (q := q) (i := 0) rfl (.inl (.inl rfl)) e8
theorem number_spec (hS : SB w q g l) {m : Nat} (hl : l.length + 4 ≤ 64) :
    Calls Try.prog 61 #[.pointer (some (blk q)), .int .u32 m] w (Ret (.tuple #[]) fun w' => SB w' q g (l ++ be4 m) ∧ Ext (fun b => b = q ∨ b = g) w w') := by
  refine journal_sector_number.run _ _ ?_
  unfold journal_sector_number.N
  intro w3 q4 X3 hb hq hq'
  have hrow : RowAt w3 (some (blk q4)) (bytesV (be4 m)) := by
    have := RowAt.of_blk hb
    have e : ∀ k : Nat, Value.int .u8 (IntKind.u8.wrap ((m : Int) / (k : Int))) = u8V (UInt8.ofNat (m / k)) := fun k => wrapU8i (z := ((m / k : Nat) : Int)) (Int.natCast_nonneg _)
    have e1 : Value.int .u8 (IntKind.u8.wrap ((m : Int) / 16777216)) = _ := e 16777216
    have e2 : Value.int .u8 (IntKind.u8.wrap ((m : Int) / 65536)) = _ := e 65536
    have e3 : Value.int .u8 (IntKind.u8.wrap ((m : Int) / 256)) = _ := e 256
    have e4 : Value.int .u8 (IntKind.u8.wrap (m : Int)) = u8V (UInt8.ofNat m) := wrapU8i (z := (m : Int)) (Int.natCast_nonneg _)
    rw [e1, e2, e3, e4] at this
    exact this
  exact (put_spec (xc := 4) (hS.no X3) hrow hl).mono fun v w6 ⟨he, hS6, X6⟩ => ⟨he, rfl, hS6, (X3.mono fun _ h _ => h.elim).then X6 fun b hb => .inl hb⟩
end
end Go.Proofs.Ytidijnfkcpbkiaa

/- Journal: the program's Frame, the reference's, and lists of bytes held against each other. -/
set_option linter.unusedVariables false
set_option linter.unusedSimpArgs false
set_option maxRecDepth 20000
set_option maxHeartbeats 2000000
namespace Go.Proofs.Ytidijnfkcpbkiaa
open Go Go.Mx Go.Proofs
open W (OwnB GivesW)
/-- a list of bytes' rows, in memory. -/
structure BsRow (w : World) (o : Own) (a : Option Addr) (c : Nat) (l : List BS) : Prop where
  row : Row w o a (l.map BS.v)
  oks : ∀ x ∈ l, BSok w o x
  le : l.length ≤ c
section
variable {w w' w1 : World} {o o' o1 : Own} {q g n N : Nat} {K : Nat → Prop} {b : List UInt8} {a : Option Addr} {c : Nat} {l : List BS}
theorem BsRow.step (h : BsRow w o a c l) (s : Step K w o w' o') : BsRow w' o' a c l := ⟨h.row.step s, fun x hx => (h.oks x hx).step s, h.le⟩
theorem BsRow.nil (w : World) (o : Own) : BsRow w o none 0 [] := ⟨Row.nil _ _ _, fun x h => (by cases h), Nat.le_refl _⟩
/-- a list of one's own, that grows. -/
structure BsL (N : Nat) (w : World) (o : Own) (a : Option Addr) (c : Nat) (l : List BS) : Prop where
  row : LRow 30 1 N w o a l.length c (l.map BS.v)
  oks : ∀ x ∈ l, BSok w o x
theorem BsL.nil (N : Nat) (w : World) (o : Own) : BsL N w o none 0 [] := ⟨LRow.nil _ _ _ _ _, fun x h => (by cases h)⟩
theorem BsL.step (h : BsL N w o a c l) (s : Step K w o w' o') (hk : ∀ k, K k → k < N ∨ w.heap.size ≤ k) : BsL N w' o' a c l := ⟨h.row.step s hk, fun x hx => (h.oks x hx).step s⟩
theorem BsL.give {w0 : World} {o0 : Own} (h : BsL N w1 o1 a c l) (s : Step K w0 o0 w1 o1) (hN : w0.heap.size ≤ N) : BsRow w1 (grow w0 o0) a c l :=
  ⟨h.row.give s hN, fun x hx => ⟨(h.oks x hx).1.forget s, (h.oks x hx).2⟩, h.row.le⟩
theorem BsL.push (h : BsL N w o a c l) (ok : Tags w o) (hl : l.length < 1000000) {x : BS} (hx : BSok w o x) {ww : World} {qq : Nat} (X : Ext no w ww) (hb : Blk ww qq 30 [x.v]) (h1 : w.heap.size ≤ qq) (h2 : qq < ww.heap.size) (hN : N ≤ w.heap.size) :
    ∃ a' c' w' o', (Builtin.append_ #[31, 31] 31 #[.slice a l.length c, .slice (some (blk qq)) 1 1]).run Try.prog ww = .ok (.slice a' (l ++ [x]).length c') w' ∧ Step (fun j => N ≤ j) w o w' o' ∧ BsL N w' o' a' c' (l ++ [x]) := by
  have s1 := Step.of_no X ok
  have hr := h.row.step s1 fun k h => h.elim
  obtain ⟨i, hi, hz, hsz, hby⟩ := info_of inf30
  obtain ⟨a', c', w', o', hrun, s2, hrow, hX⟩ := hr.push (ty := 31) Try.underlying31 hi hz hsz hby rfl (by decide) s1.ok (p := qq) (by omega) h2 (xa := some (blk qq)) (m := 1) (xc := 1) (news := [x.v]) rfl (RowAt.of_blk hb) (fun u hu => by simp at hu; subst hu; rfl) (by omega) (by omega)
  refine ⟨a', c', w', o', by rw [List.length_append]; exact hrun, s1.none.trans s2, ⟨?_, fun y hy => ?_⟩⟩
  · rw [List.length_append, List.map_append]; exact hrow
  · rcases List.mem_append.1 hy with hy | hy
    · exact ((h.oks y hy).step s1).step s2
    · simp at hy; subst hy; exact (hx.step s1).step s2
theorem mk_sector (w : World) : ∃ w', (Instr.makeSlice 98 (.int .i64 0) (.int .i64 64)).run Try.prog w = .ok (.slice (some (blk w.heap.size)) 0 64) w' ∧ Ext no w w' ∧ Blk w' w.heap.size 5 (bytesV (List.replicate 64 0)) ∧ w.heap.size < w'.heap.size := by
  obtain ⟨i, hi, hz, hs, hb⟩ := info_of W.infU8
  have hmk := run_makeSlice (P := Try.prog) (w := w) 98 5 i _ Try.underlying98 hi hz .i64 .i64 0 64 (by omega) (by decide) (by rw [hs]; decide) (by rw [hb]; decide) (by decide)
  rw [hs] at hmk
  have hcells : (madeCells (Value.int .u8 0).cells ((64 : Int).toNat * 1)) = (bytesV (List.replicate 64 0)).toArray := by
    apply Array.ext'
    rw [show (Value.int .u8 0).cells = #[Value.int .u8 0] from rfl, toList_madeCells_one]
    show List.replicate 64 _ = bytesV _
    rw [bytesV, List.map_replicate]; rfl
  rw [hcells] at hmk
  exact ⟨_, hmk, (Ext.refl _ _).alloc _, Blk.new _ _ _, by simp⟩
theorem part_bound {t : Nat} (ht : t < partsN b.length) : 48 * t ≤ b.length ∧ b.length ≤ 4000 ∧ t < 84 := by
  have h84 := partsN_le b.length
  unfold partsN at ht
  split at ht
  · omega
  · split at ht <;> omega
theorem part_row {t : Nat} (hb : RowAt w a (bytesV b)) (hc : b.length ≤ c) : RowAt w (cutA a c (48 * t) 1) (bytesV (partL b t)) := by
  have h := (hb.cut (48 * t) c (by rw [bytesV_length]; exact hc)).take 48
  unfold partL bytesV
  rw [List.map_take, List.map_drop]
  exact h
theorem fFrame_spec (ok : Tags w o) (hb : RowAt w a (bytesV b)) (hc : b.length ≤ c) (hl : b.length < 1000000) (gen round seq : Nat) :
    Calls Try.prog 53 #[.int .u32 gen, .int .u32 round, .int .u32 seq, .slice a b.length c] w (fun z w' => ∃ o' oa oc, ∃ l : List BS, z = .returned (.tuple #[.slice oa l.length oc, .int .i64 (frameK gen round seq b).2]) ∧ Step no w o w' o' ∧ l.map BS.bs = (frameK gen round seq b).1 ∧ BsRow w' o' oa oc l) := by
  refine (journal_Frame.go gen round seq a b.length c (R := fun z w' => ∃ o' oa oc, ∃ l : List BS, z = (.tuple #[.slice oa l.length oc, .int .i64 (frameK gen round seq b).2]) ∧ Step no w o w' o' ∧ l.map BS.bs = (frameK gen round seq b).1 ∧ BsRow w' o' oa oc l) ?_).mono fun z w' ⟨u, he, o', oa, oc, l, hu, hw⟩ => ⟨o', oa, oc, l, by rw [he, hu], hw⟩
  unfold journal_Frame.N
  rw [parts_F, partsI_nat]
  have leaf : ∀ {w2 : World} (k : Int), frameK gen round seq b = ([], k) → Ext no w w2 → ∃ o' oa oc, ∃ l : List BS, Value.tuple #[.slice none 0 0, .int .i64 k] = (.tuple #[.slice oa l.length oc, .int .i64 (frameK gen round seq b).2]) ∧ Step no w o w2 o' ∧ l.map BS.bs = (frameK gen round seq b).1 ∧ BsRow w2 o' oa oc l := fun k hk X => ⟨_, none, 0, [], by rw [hk]; rfl, Step.of_no X ok, by rw [hk]; rfl, BsRow.nil _ _⟩
  have hp0 : (partsN b.length : Int) = 0 ↔ b.length > 4000 := by
    unfold partsN
    split
    · simp; omega
    · split
      · simp; omega
      · omega
  refine ⟨fun h w2 X => leaf 3 (by unfold frameK; rw [if_pos (hp0.1 h)]) X, fun h => ?_⟩
  have h4 : ¬ b.length > 4000 := fun h' => h (hp0.2 h')
  refine ⟨fun h1 w2 X => leaf 1 (by unfold frameK; rw [if_neg h4, if_pos (.inl (by omega))]) X, fun h1 => ⟨fun h2 w2 X => leaf 1 (by unfold frameK; rw [if_neg h4, if_pos (.inr (by omega))]) X, fun h2 w5 X5 => ?_⟩⟩
  have hK : frameK gen round seq b = (frameL gen round seq b, 0) := by unfold frameK; rw [if_neg h4, if_neg (by omega)]
  rw [hK]
  have s5 := Step.of_no X5 ok
  refine ⟨fun m vs w1 => ∃ (t : Nat) (o1 : Own) (oa : Option Addr) (oc : Nat) (l : List BS), vs = [.slice oa l.length oc, .int .i64 t] ∧ m + t = partsN b.length ∧ Step no w o w1 o1 ∧ BsL w.heap.size w1 o1 oa oc l ∧ l.map BS.bs = (List.range t).map (fun i => secL gen round seq i (partsN b.length) (partL b i)), partsN b.length, ⟨0, _, none, 0, [], rfl, rfl, s5, BsL.nil _ _ _, rfl⟩, ?_⟩
  rintro m w13 oa on oc i ⟨t, o13, oa1, oc1, l, hi, hm, s13, hL, hmap⟩
  simp only [List.cons.injEq, Value.slice.injEq, Value.int.injEq, true_and, and_true] at hi
  obtain ⟨⟨rfl, rfl, rfl⟩, rfl⟩ := hi
  refine ⟨fun ht => ?_, fun ht => ?_⟩
  rotate_left
  · have htt : t = partsN b.length := by omega
    subst htt
    exact ⟨_, oa, oc, l, rfl, Step.of_no (s13.ext.mono fun b ⟨_, _, h⟩ _ => h) ok, hmap, hL.give s13 (Nat.le_refl _)⟩
  have htl : t < partsN b.length := by omega
  obtain ⟨hb1, hb2, hb3⟩ := part_bound htl
  have hlen : l.length = t := by have := congrArg List.length hmap; simpa using this
  have hpl : (partL b t).length = min 48 (b.length - 48 * t) := by unfold partL; rw [List.length_take, List.length_drop]
  have hcut : Int.toNat (if (b.length : Int) < (48 : Int) * ((t : Int) + 1) then (b.length : Int) else (48 : Int) * ((t : Int) + 1)) - Int.toNat ((48 : Int) * (t : Int)) = (partL b t).length := by
    rw [hpl]; split <;> omega
  have hcut2 : Int.toNat ((48 : Int) * (t : Int)) = 48 * t := by omega
  refine ⟨by omega, by omega, by omega, by omega, by omega, by omega, by split <;> omega, by split <;> omega, by omega, by split <;> omega, ?_⟩
  rw [hcut, hcut2]
  have hb13 : RowAt w13 a (bytesV b) := hb.no (s13.ext.mono fun b ⟨_, _, h⟩ _ => h)
  obtain ⟨w16, hmk, X16, hbg, hg⟩ := mk_sector w13
  refine ⟨_, _, _, w16, hmk, fun w17 q X17 hbq hq hq' => ?_⟩
  have g17 := hbg.ext X17 id
  have hne : q ≠ w13.heap.size := by omega
  refine ⟨hbq.cana (i := 0) rfl, thenW_in fun w19 e19 => ?_⟩
  have SB19 : SB w19 q w13.heap.size [] := ⟨hbq.seti 0 rfl e19, g17.oth rfl (fun e => hne e.symm) e19, hne, by decide⟩
  have X19 : Ext no w13 w19 := (X16.trans X17).x_set (q := q) (i := 0) rfl (.inr (by omega)) e19
  have l16 := X16.size
  have own : ∀ {w2 w3 : World}, Ext no w13 w2 → Ext (fun b => b = q ∨ b = w13.heap.size) w2 w3 → Ext no w13 w3 := fun h k => h.then k fun b hb => .inr (by omega)
  intro w20 q21 X20 hb21 hq21 hq21'
  have lit1 : RowAt w20 (some (blk q21)) (bytesV [197]) := RowAt.of_blk hb21
  refine (put_spec (xc := 1) (SB19.no X20) lit1 (by decide)).mono fun u w23 ⟨he, S23, X23⟩ => ⟨he, ?_⟩
  have X23 := own (X19.trans X20) X23
  refine (number_spec (m := gen) S23 (by decide)).mono fun u w25 ⟨he, S25, X25⟩ => ⟨he, ?_⟩
  have X25 := own X23 X25
  refine (number_spec (m := round) S25 (by simp [be4])).mono fun u w27 ⟨he, S27, X27⟩ => ⟨he, ?_⟩
  have X27 := own X25 X27
  refine (number_spec (m := seq) S27 (by simp [be4])).mono fun u w29 ⟨he, S29, X29⟩ => ⟨he, ?_⟩
  have X29 := own X27 X29
  intro w30 q31 X30 hb31 hq31 hq31'
  have lit3 : RowAt w30 (some (blk q31)) (bytesV [UInt8.ofNat t, UInt8.ofNat (partsN b.length), UInt8.ofNat (partL b t).length]) := by
    have := RowAt.of_blk hb31
    rw [wrapU8i (Int.natCast_nonneg t), wrapU8i (Int.natCast_nonneg (partsN b.length)), wrapU8i (Int.natCast_nonneg (partL b t).length)] at this
    exact this
  refine (put_spec (xc := 3) (S29.no X30) lit3 (by simp [be4])).mono fun u w33 ⟨he, S33, X33⟩ => ⟨he, ?_⟩
  have X33 := own (X29.trans X30) X33
  have hple := partL_le b t
  refine (put_spec S33 (part_row (hb13.no X33) hc) (by simp [be4]; omega)).mono fun u w35 ⟨he, S35, X35⟩ => ⟨he, ?_⟩
  have X35 := own X33 X35
  refine ⟨_, _, _, S35.p.cella (i := 0) rfl, by decide, fun w38 q39 X38 hb39 hq39 hq39' => ?_⟩
  have s35 := Step.of_no X35 s13.ok
  have hsec : [] ++ [197] ++ be4 gen ++ be4 round ++ be4 seq ++ [UInt8.ofNat t, UInt8.ofNat (partsN b.length), UInt8.ofNat (partL b t).length] ++ partL b t ++ List.replicate (64 - ([] ++ [197] ++ be4 gen ++ be4 round ++ be4 seq ++ [UInt8.ofNat t, UInt8.ofNat (partsN b.length), UInt8.ofNat (partL b t).length] ++ partL b t).length) 0 = secL gen round seq t (partsN b.length) (partL b t) := by
    unfold secL headL
    have : 64 - ([] ++ [197] ++ be4 gen ++ be4 round ++ be4 seq ++ [UInt8.ofNat t, UInt8.ofNat (partsN b.length), UInt8.ofNat (partL b t).length] ++ partL b t).length = 48 - (partL b t).length := by simp [be4] <;> omega
    rw [this]; rfl
  have hbl := S35.b
  rw [hsec] at hbl
  have hsl := secL_len gen round seq t (partsN b.length) hple
  have okx : BSok w35 (grow w13 o13) ⟨some (blk w13.heap.size), 64, secL gen round seq t (partsN b.length) (partL b t)⟩ := ⟨Row.fresh (RowAt.of_blk hbl) fun ad ha => by cases ha; exact Nat.le_refl _, by show (secL _ _ _ _ _ _).length ≤ 64; omega⟩
  have hb39' : Blk w38 q39 30 [BS.v ⟨some (blk w13.heap.size), 64, secL gen round seq t (partsN b.length) (partL b t)⟩] := by
    unfold BS.v; rw [hsl]; exact hb39
  have l13 := s13.size
  obtain ⟨a', c', w41, o41, hr, s41, L41⟩ := (hL.step s35 fun _ h => h.elim).push s35.ok (by omega) okx X38 hb39' hq39 hq39' (by have := X35.size; omega)
  refine ⟨a', _, c', w41, hr, by omega, by omega, m - 1, by omega, t + 1, o41, a', c', _, ?_, by omega, (s13.trans s35).trans' s41 fun i hi => .inr hi, L41, ?_⟩
  · rfl
  · rw [List.map_append, hmap, List.range_succ, List.map_append]; rfl
end
end Go.Proofs.Ytidijnfkcpbkiaa

/- Journal: the reference's Frame; lists of bytes held against each other. -/
set_option linter.unusedVariables false
set_option linter.unusedSimpArgs false
set_option maxRecDepth 20000
set_option maxHeartbeats 2000000
namespace Go.Proofs.Ytidijnfkcpbkiaa
open Go Go.Mx Go.Proofs
open W (OwnB GivesW)
section
variable {w w' w1 : World} {o o' o1 : Own} {q g n N : Nat} {K : Nat → Prop} {b : List UInt8} {a : Option Addr} {c : Nat} {l : List BS}
theorem u8mod (k : Nat) : UInt8.ofNat (k % 256) = UInt8.ofNat k := by
  apply UInt8.toNat_inj.1
  simp
theorem four_spec {m : Nat} (hm : m < 4294967296) (w : World) :
    Calls Try.prog 65 #[.int .u32 m] w (fun z w' => ∃ q, z = .returned (.slice (some (blk q)) 4 4) ∧ w.heap.size ≤ q ∧ Ext no w w' ∧ Blk w' q 5 (bytesV (be4 m))) := by
  refine (cachetteref10_four.go m (R := fun z w' => ∃ q, z = (.slice (some (blk q)) 4 4) ∧ w.heap.size ≤ q ∧ Ext no w w' ∧ Blk w' q 5 (bytesV (be4 m))) ?_).mono fun z w' ⟨u, he, q, hu, hw⟩ => ⟨q, by rw [he, hu], hw⟩
  unfold cachetteref10_four.N
  intro w2 q3 X2 hb hq hq'
  have d : ∀ k : Nat, 0 < k → Int.tdiv (m : Int) (k : Int) = ((m / k : Nat) : Int) := fun k hk => by rw [Int.tdiv_eq_ediv_of_nonneg (by omega)]; rfl
  have e0 : IntKind.u32.wrap (Int.tdiv (m : Int) 16777216) = ((m / 16777216 : Nat) : Int) := by
    rw [show Int.tdiv (m : Int) 16777216 = _ from d 16777216 (by decide), IntKind.wrap_u32]; omega
  have e1 : Int.tmod (IntKind.u32.wrap (Int.tdiv (m : Int) 65536)) 256 = ((m / 65536 % 256 : Nat) : Int) := by
    rw [show Int.tdiv (m : Int) 65536 = _ from d 65536 (by decide), IntKind.wrap_u32, Int.tmod_eq_emod_of_nonneg (by omega)]; omega
  have e2 : Int.tmod (IntKind.u32.wrap (Int.tdiv (m : Int) 256)) 256 = ((m / 256 % 256 : Nat) : Int) := by
    rw [show Int.tdiv (m : Int) 256 = _ from d 256 (by decide), IntKind.wrap_u32, Int.tmod_eq_emod_of_nonneg (by omega)]; omega
  have e3 : Int.tmod (m : Int) 256 = ((m % 256 : Nat) : Int) := by rw [Int.tmod_eq_emod_of_nonneg (by omega)]; rfl
  refine ⟨q3, rfl, hq, X2, ?_⟩
  rw [e0, e1, e2, e3, wrapU8i (Int.natCast_nonneg _), wrapU8i (Int.natCast_nonneg _), wrapU8i (Int.natCast_nonneg _), wrapU8i (Int.natCast_nonneg _), Int.toNat_natCast, Int.toNat_natCast, Int.toNat_natCast, Int.toNat_natCast, u8mod, u8mod, u8mod] at hb
  exact hb
/-- one's own bytes, and more behind them. -/
theorem appB {w0 wi w1 : World} {N : Nat} {a xa : Option Addr} {c xc : Nat} {l x : List UInt8} (hB : OwnB N wi a c l) (X : Ext no w0 wi) (h0 : w0.heap.size ≤ N) (hN : N ≤ wi.heap.size) (hx : Ext no wi w1) (hO : RowAt w1 xa (bytesV x)) (hl : l.length + x.length ≤ 100000000) :
    ∃ a' c' w', (Builtin.append_ #[30, 30] 30 #[.slice a l.length c, .slice xa x.length xc]).run Try.prog w1 = .ok (.slice a' (l ++ x).length c') w' ∧ OwnB N w' a' c' (l ++ x) ∧ Ext no w0 w' ∧ N ≤ w'.heap.size := by
  obtain ⟨a', c', w', hr, hO2, hx2⟩ := (W.OwnB.no hB hx).append (t := 30) (ty := 30) Try.underlying30 (Nat.le_trans hN hx.size) (xc := xc) hO hl
  exact ⟨a', c', w', hr, hO2, (X.trans hx).then hx2 fun b hb => .inr (Nat.le_trans h0 hb), Nat.le_trans hN (Nat.le_trans hx.size hx2.size)⟩
/-- one's own bytes that are nobody's stay. -/
theorem own_stay {x : BS} (h : OwnB N w x.a x.c x.bs) (hr : BSok w o x) (hne : x.bs ≠ []) (s : Step K w o w' o') : OwnB N w' x.a x.c x.bs :=
  W.OwnB.ext h s.ext fun ad ha ⟨k, hk, _⟩ => by
    have h0 : bytesV x.bs ≠ [] := fun e => hne (by simpa [bytesV] using e)
    rw [hr.1.2 h0 ad ha] at hk; cases hk
theorem rFrame_spec (ok : Tags w o) (hb : RowAt w a (bytesV b)) (hc : b.length ≤ c) (hl : b.length < 1000000) {gen round seq : Nat} (hg : gen < 4294967296) (hro : round < 4294967296) (hse : seq < 4294967296) :
    Calls Try.prog 62 #[.int .u32 gen, .int .u32 round, .int .u32 seq, .slice a b.length c] w (fun z w' => ∃ o' oa oc, ∃ l : List BS, z = .returned (.tuple #[.slice oa l.length oc, .int .i64 (frameK gen round seq b).2]) ∧ Step no w o w' o' ∧ l.map BS.bs = (frameK gen round seq b).1 ∧ BsRow w' o' oa oc l ∧ ∀ x ∈ l, OwnB w.heap.size w' x.a x.c x.bs) := by
  refine (cachetteref10_Frame.go gen round seq a b.length c (R := fun z w' => ∃ o' oa oc, ∃ l : List BS, z = (.tuple #[.slice oa l.length oc, .int .i64 (frameK gen round seq b).2]) ∧ Step no w o w' o' ∧ l.map BS.bs = (frameK gen round seq b).1 ∧ BsRow w' o' oa oc l ∧ ∀ x ∈ l, OwnB w.heap.size w' x.a x.c x.bs) ?_).mono fun z w' ⟨u, he, o', oa, oc, l, hu, hw⟩ => ⟨o', oa, oc, l, by rw [he, hu], hw⟩
  unfold cachetteref10_Frame.N
  rw [refParts_F, partsI_nat]
  have leaf : ∀ {w2 : World} (k : Int), frameK gen round seq b = ([], k) → Ext no w w2 → ∃ o' oa oc, ∃ l : List BS, Value.tuple #[.slice none 0 0, .int .i64 k] = (.tuple #[.slice oa l.length oc, .int .i64 (frameK gen round seq b).2]) ∧ Step no w o w2 o' ∧ l.map BS.bs = (frameK gen round seq b).1 ∧ BsRow w2 o' oa oc l ∧ ∀ x ∈ l, OwnB w.heap.size w2 x.a x.c x.bs := fun k hk X => ⟨_, none, 0, [], by rw [hk]; rfl, Step.of_no X ok, by rw [hk]; rfl, BsRow.nil _ _, fun x hx => by cases hx⟩
  refine ⟨fun h => leaf 3 (by unfold frameK; rw [if_pos (by omega)]) (Ext.refl _ _), fun h => ?_⟩
  have h4 : ¬ b.length > 4000 := by omega
  refine ⟨fun h1 => leaf 1 (by unfold frameK; rw [if_neg h4, if_pos (.inl (by omega))]) (Ext.refl _ _), fun h1 => ⟨fun h2 => leaf 1 (by unfold frameK; rw [if_neg h4, if_pos (.inr (by omega))]) (Ext.refl _ _), fun h2 w5 X5 => ?_⟩⟩
  have hK : frameK gen round seq b = (frameL gen round seq b, 0) := by unfold frameK; rw [if_neg h4, if_neg (by omega)]
  rw [hK]
  have s5 := Step.of_no X5 ok
  refine ⟨fun m vs w1 => ∃ (t : Nat) (o1 : Own) (oa : Option Addr) (oc : Nat) (l : List BS), vs = [.slice oa l.length oc, .int .i64 t] ∧ m + t = partsN b.length ∧ Step no w o w1 o1 ∧ BsL w.heap.size w1 o1 oa oc l ∧ l.map BS.bs = (List.range t).map (fun i => secL gen round seq i (partsN b.length) (partL b i)) ∧ (∀ x ∈ l, OwnB w.heap.size w1 x.a x.c x.bs ∧ x.bs ≠ []), partsN b.length, ⟨0, _, none, 0, [], rfl, rfl, s5, BsL.nil _ _ _, rfl, fun x hx => by cases hx⟩, ?_⟩
  rintro m w13 oa on oc i ⟨t, o13, oa1, oc1, l, hi, hm, s13, hL, hmap, hown⟩
  simp only [List.cons.injEq, Value.slice.injEq, Value.int.injEq, true_and, and_true] at hi
  obtain ⟨⟨rfl, rfl, rfl⟩, rfl⟩ := hi
  refine ⟨fun ht => ?_, fun ht => ?_⟩
  rotate_left
  · have htt : t = partsN b.length := by omega
    subst htt
    exact ⟨_, oa, oc, l, rfl, Step.of_no (s13.ext.mono fun b ⟨_, _, h⟩ _ => h) ok, hmap, hL.give s13 (Nat.le_refl _), fun x hx => (hown x hx).1⟩
  have htl : t < partsN b.length := by omega
  obtain ⟨hb1, hb2, hb3⟩ := part_bound htl
  have hlen : l.length = t := by have := congrArg List.length hmap; simpa using this
  have hpl : (partL b t).length = min 48 (b.length - 48 * t) := by unfold partL; rw [List.length_take, List.length_drop]
  have hcut : Int.toNat (if (b.length : Int) < ((48 : Int) * (t : Int)) + 48 then (b.length : Int) else ((48 : Int) * (t : Int)) + 48) - Int.toNat ((48 : Int) * (t : Int)) = (partL b t).length := by
    rw [hpl]; split <;> omega
  have hcut2 : Int.toNat ((48 : Int) * (t : Int)) = 48 * t := by omega
  refine ⟨by omega, by omega, by omega, by omega, by omega, by omega, by split <;> omega, by split <;> omega, by omega, by split <;> omega, ?_⟩
  rw [hcut, hcut2]
  have hb13 : RowAt w13 a (bytesV b) := hb.no (s13.ext.mono fun b ⟨_, _, h⟩ _ => h)
  intro w15 q16 X15 hb16 hq16 hq16'
  have O15 : OwnB w13.heap.size w15 (some (blk q16)) 1 [197] := ⟨owns_of_blk hb16 rfl (by unfold maxLen; decide), fun ad ha => by cases ha; exact ⟨hq16, hq16'⟩⟩
  have l15 := X15.size
  have hple := partL_le b t
  refine (four_spec hg w15).mono fun u w19 ⟨q1, he, _, X19, hb1'⟩ => ⟨_, _, _, he, ?_⟩
  obtain ⟨a20, c20, w21, hr21, O21, X21, n21⟩ := appB (xc := 4) O15 X15 (Nat.le_refl _) l15 X19 (RowAt.of_blk hb1') (by simp [be4])
  refine ⟨a20, _, c20, w21, hr21, ?_⟩
  refine (four_spec hro w21).mono fun u w24 ⟨q2, he, _, X24, hb2'⟩ => ⟨_, _, _, he, ?_⟩
  obtain ⟨a25, c25, w26, hr26, O26, X26, n26⟩ := appB (xc := 4) O21 X21 (Nat.le_refl _) n21 X24 (RowAt.of_blk hb2') (by simp [be4])
  refine ⟨a25, _, c25, w26, hr26, ?_⟩
  refine (four_spec hse w26).mono fun u w29 ⟨q3, he, _, X29, hb3'⟩ => ⟨_, _, _, he, ?_⟩
  obtain ⟨a30, c30, w31, hr31, O31, X31, n31⟩ := appB (xc := 4) O26 X26 (Nat.le_refl _) n26 X29 (RowAt.of_blk hb3') (by simp [be4])
  refine ⟨a30, _, c30, w31, hr31, fun w32 q33 X32 hb33 hq33 hq33' => ?_⟩
  have lit3 : RowAt w32 (some (blk q33)) (bytesV [UInt8.ofNat t, UInt8.ofNat (partsN b.length), UInt8.ofNat (partL b t).length]) := by
    have := RowAt.of_blk hb33
    rw [wrapU8i (Int.natCast_nonneg t), wrapU8i (Int.natCast_nonneg (partsN b.length)), wrapU8i (Int.natCast_nonneg (partL b t).length)] at this
    exact this
  obtain ⟨a34, c34, w35, hr35, O35, X35, n35⟩ := appB (xc := 3) O31 X31 (Nat.le_refl _) n31 X32 lit3 (by simp [be4])
  refine ⟨a34, _, c34, w35, hr35, ?_⟩
  obtain ⟨a36, c36, w37, hr37, O37, X37, n37⟩ := appB (xc := c - 48 * t) O35 X35 (Nat.le_refl _) n35 (Ext.refl no w35) (part_row (t := t) (hb13.no X35) hc) (by simp [be4]; omega)
  refine ⟨a36, _, c36, w37, hr37, ?_⟩
  have hbase : [197] ++ be4 gen ++ be4 round ++ be4 seq ++ [UInt8.ofNat t, UInt8.ofNat (partsN b.length), UInt8.ofNat (partL b t).length] ++ partL b t = headL gen round seq t (partsN b.length) (partL b t).length ++ partL b t := by simp [headL]
  rw [hbase] at O37 ⊢
  have hbl : (headL gen round seq t (partsN b.length) (partL b t).length ++ partL b t).length = 16 + (partL b t).length := by rw [List.length_append, headL_len]
  generalize hB : headL gen round seq t (partsN b.length) (partL b t).length ++ partL b t = base at *
  refine ⟨fun m vs w1 => ∃ (k : Nat) (sa : Option Addr) (sc : Nat), vs = [.slice sa (base ++ List.replicate k 0).length sc] ∧ m + base.length + k = 64 ∧ OwnB w13.heap.size w1 sa sc (base ++ List.replicate k 0) ∧ Ext no w13 w1 ∧ w13.heap.size ≤ w1.heap.size, 64 - base.length, ⟨0, a36, c36, by simp, by omega, by simpa using O37, X37, n37⟩, ?_⟩
  rintro m2 w41 sa sn sc ⟨k, sa', sc', hi, hm2, O41, X41, n41⟩
  simp only [List.cons.injEq, Value.slice.injEq, and_true] at hi
  obtain ⟨rfl, rfl, rfl⟩ := hi
  have hlk : (base ++ List.replicate k (0 : UInt8)).length = base.length + k := by simp
  refine ⟨fun hlt w43 q44 X43 hb44 hq44 hq44' => ?_, fun hge w48 q49 X48 hb49 hq49 hq49' => ?_⟩
  · have lit0 : RowAt w43 (some (blk q44)) (bytesV [0]) := RowAt.of_blk hb44
    obtain ⟨a45, c45, w46, hr46, O46, X46, n46⟩ := appB (xc := 1) O41 X41 (Nat.le_refl _) n41 X43 lit0 (by rw [hlk]; simp; omega)
    have hk1 : base ++ List.replicate k (0 : UInt8) ++ [0] = base ++ List.replicate (k + 1) 0 := by rw [List.append_assoc, List.replicate_succ']
    rw [hk1] at hr46 O46
    exact ⟨a45, _, c45, w46, hr46, m2 - 1, by omega, k + 1, a45, c45, rfl, by omega, O46, X46, n46⟩
  · have hk : k = 48 - (partL b t).length := by omega
    have hsec : base ++ List.replicate k 0 = secL gen round seq t (partsN b.length) (partL b t) := by unfold secL; rw [hB, hk]
    rw [hsec] at O41 hb49
    have s41 := Step.of_no X41 s13.ok
    have okx : BSok w41 (grow w13 o13) ⟨sa, sc, secL gen round seq t (partsN b.length) (partL b t)⟩ := ⟨Row.fresh O41.row fun ad ha => (O41.fr ad ha).1, O41.le⟩
    have l13 := s13.size
    obtain ⟨a', c', w51, o51, hr, s51, L51⟩ := (hL.step s41 fun _ h => h.elim).push s41.ok (by omega) okx X48 hb49 hq49 hq49' (by have := X41.size; omega)
    refine ⟨a', _, c', w51, hr, by omega, by omega, m - 1, by omega, t + 1, o51, a', c', _, rfl, by omega, (s13.trans s41).trans' s51 fun i hi => .inr hi, L51, by rw [List.map_append, hmap, List.range_succ, List.map_append]; rfl, fun x hx => ?_⟩
    have hne : secL gen round seq t (partsN b.length) (partL b t) ≠ [] := fun e => by have := secL_len gen round seq t (partsN b.length) hple; rw [e] at this; cases this
    rcases List.mem_append.1 hx with hx | hx
    · obtain ⟨p1, p2⟩ := hown x hx
      have q1 := own_stay p1 (hL.oks x hx) p2 s41
      exact ⟨own_stay q1 ((hL.oks x hx).step s41) p2 s51, p2⟩
    · simp at hx; subst hx
      exact ⟨own_stay (x := ⟨sa, sc, secL gen round seq t (partsN b.length) (partL b t)⟩) ⟨O41.own, fun ad ha => ⟨Nat.le_trans l13 (O41.fr ad ha).1, (O41.fr ad ha).2⟩⟩ okx hne s51, hne⟩
theorem lists_spec {aa ba : Option Addr} {ac bc : Nat} {l1 l2 : List BS} (h1 : RowAt w aa (l1.map BS.v)) (h2 : RowAt w ba (l2.map BS.v)) (k1 : ∀ x ∈ l1, RowAt w x.a (bytesV x.bs) ∧ x.bs.length < 1000000) (k2 : ∀ x ∈ l2, RowAt w x.a (bytesV x.bs)) (hl : l1.length < 1000000) :
    Calls Try.prog 45 #[.slice aa l1.length ac, .slice ba l2.length bc] w (Ret (.bool (decide (l1.map BS.bs = l2.map BS.bs))) fun w' => Ext no w w') := by
  refine cachetteref10_Lists.run _ _ _ _ _ _ ?_
  unfold cachetteref10_Lists.N
  have leafF : l1.map BS.bs ≠ l2.map BS.bs → ∀ {w2 : World}, Ext no w w2 → Value.bool false = .bool (decide (l1.map BS.bs = l2.map BS.bs)) ∧ Ext no w w2 := fun h _ X => ⟨by rw [decide_eq_false h], X⟩
  refine ⟨fun h => leafF (fun e => h (by have := congrArg List.length e; simp at this; omega)) (Ext.refl _ _), fun h => ?_⟩
  have hll : l1.length = l2.length := by omega
  refine ⟨fun m vs w1 => ∃ t : Nat, vs = [.int .i64 t] ∧ m + t = l1.length ∧ Ext no w w1 ∧ (l1.map BS.bs).take t = (l2.map BS.bs).take t, l1.length, ⟨0, rfl, rfl, Ext.refl _ _, rfl⟩, ?_⟩
  rintro m w7 i ⟨t, hi, hm, X7, htk⟩
  simp only [List.cons.injEq, Value.int.injEq, true_and, and_true] at hi
  subst hi
  refine ⟨fun ht => ?_, fun ht => ?_⟩
  rotate_left
  · have htt : t = l1.length := by omega
    rw [List.take_of_length_le (by simp; omega), List.take_of_length_le (by simp; omega)] at htk
    exact ⟨by rw [decide_eq_true htk], X7⟩
  have ht1 : t < l1.length := by omega
  have ht2 : t < l2.length := by omega
  have g1 : l1[t]? = some l1[t] := List.getElem?_eq_getElem ht1
  have g2 : l2[t]? = some l2[t] := List.getElem?_eq_getElem ht2
  obtain ⟨x1, x2⟩ := k1 _ (List.getElem_mem ht1)
  have y1 := k2 _ (List.getElem_mem ht2)
  have m1 : (l1.map BS.v)[t]? = some (BS.v l1[t]) := by rw [List.getElem?_map, g1]; rfl
  have m2 : (l2.map BS.v)[t]? = some (BS.v l2[t]) := by rw [List.getElem?_map, g2]; rfl
  have n1 : (l1.map BS.bs)[t]? = some (l1[t]).bs := by rw [List.getElem?_map, g1]; rfl
  have n2 : (l2.map BS.bs)[t]? = some (l2[t]).bs := by rw [List.getElem?_map, g2]; rfl
  generalize l1[t] = u at *
  generalize l2[t] = v at *
  obtain ⟨ad, rfl, c1⟩ := h1 t _ m1
  obtain ⟨bd, rfl, c2⟩ := h2 t _ m2
  refine ⟨ad, rfl, by omega, by omega, u.a, u.bs.length, u.c, by rw [Int.toNat_natCast, Nat.mul_one]; exact X7.cell c1 id, bd, rfl, by omega, by omega, v.a, v.bs.length, v.c, by rw [Int.toNat_natCast, Nat.mul_one]; exact X7.cell c2 id, fun w9 X9 => ?_⟩
  refine (W.sameB_spec ((x1.no X7).no X9) ((y1.no X7).no X9) x2).mono fun z w18 ⟨he, X18⟩ => ⟨_, he, fun hs => ?_, fun hs => ?_⟩
  · have hne := of_decide_eq_false hs
    exact leafF (fun e => hne (by rw [e, n2] at n1; injection n1 with n1; exact n1.symm)) ((X7.trans X9).trans X18)
  · have heq := of_decide_eq_true hs
    exact ⟨by omega, by omega, m - 1, by omega, t + 1, rfl, by omega, (X7.trans X9).trans X18, by rw [List.take_add_one, List.take_add_one, htk, n1, n2, heq]⟩
end
end Go.Proofs.Ytidijnfkcpbkiaa

/- Journal: predicates of scans. -/
set_option linter.unusedVariables false
set_option linter.unusedSimpArgs false
set_option maxRecDepth 20000
set_option maxHeartbeats 2000000
namespace Go.Proofs.Ytidijnfkcpbkiaa
open Go Go.Mx Go.Proofs
/-- bytes.Equal -/
def bytes_Equal.M (a1 : Option Addr) (a0 : Nat) (a4 : Nat) (a5 : Option Addr) (a2 : Nat) (a3 : Nat) (R : Value → World → Prop) (w : World) : Prop :=
 ∃ (s3 : ByteArray), (convert 30 9 (.slice a1 a0 a4)).run Try.prog w = .ok (.string s3) w ∧
 ∃ (s4 : ByteArray), (convert 30 9 (.slice a5 a2 a3)).run Try.prog w = .ok (.string s4) w ∧
 R (.bool (s3.toList == s4.toList)) w

theorem bytes_Equal.eq (a1a : Option Addr) (a1n : Nat) (a1c : Nat) (b2a : Option Addr) (b2n : Nat) (b2c : Nat) (R : Value → World → Prop) (w : World) : mfunc Try.prog [] 64 [.slice a1a a1n a1c, .slice b2a b2n b2c] R w = bytes_Equal.M a1a a1n a1c b2a b2n b2c R w := by kernel_rfl
theorem bytes_Equal.ok (a1 : Option Addr) (a0 : Nat) (a4 : Nat) (a5 : Option Addr) (a2 : Nat) (a3 : Nat) {R : Value → World → Prop} {w : World} (h : bytes_Equal.M a1 a0 a4 a5 a2 a3 R w) : Calls Try.prog 64 #[.slice a1 a0 a4, .slice a5 a2 a3] w fun e w' => ∃ v, e = .returned v ∧ R v w' :=
  mfunc_ok follows (H := []) (args := [.slice a1 a0 a4, .slice a5 a2 a3]) (by rw [bytes_Equal.eq]; exact h)

def bytes_Equal.N (a1 : Option Addr) (a0 : Nat) (a4 : Nat) (a5 : Option Addr) (a2 : Nat) (a3 : Nat) (R : Value → World → Prop) (w : World) : Prop :=
 ∃ (s3 : ByteArray), (convert 30 9 (.slice a1 a0 a4)).run Try.prog w = .ok (.string s3) w ∧
 ∃ (s5 : ByteArray), (convert 30 9 (.slice a5 a2 a3)).run Try.prog w = .ok (.string s5) w ∧
 R (.bool (s3.toList == s5.toList)) w

theorem bytes_Equal.up (a1 : Option Addr) (a0 : Nat) (a4 : Nat) (a5 : Option Addr) (a2 : Nat) (a3 : Nat) {R : Value → World → Prop} {w : World} (h : bytes_Equal.N a1 a0 a4 a5 a2 a3 R w) : bytes_Equal.M a1 a0 a4 a5 a2 a3 R w := by
  unfold bytes_Equal.M
  unfold bytes_Equal.N at h
  obtain ⟨s3, a7, h⟩ := h
  refine ⟨s3, a7, ?_⟩
  obtain ⟨s5, a6, h⟩ := h
  refine ⟨s5, a6, ?_⟩
  exact h

theorem bytes_Equal.go (a1 : Option Addr) (a0 : Nat) (a4 : Nat) (a5 : Option Addr) (a2 : Nat) (a3 : Nat) {R : Value → World → Prop} {w : World} (h : bytes_Equal.N a1 a0 a4 a5 a2 a3 R w) : Calls Try.prog 64 #[.slice a1 a0 a4, .slice a5 a2 a3] w fun e w' => ∃ v, e = .returned v ∧ R v w' := bytes_Equal.ok a1 a0 a4 a5 a2 a3 (bytes_Equal.up a1 a0 a4 a5 a2 a3 h)
theorem bytes_Equal.run (a1 : Option Addr) (a0 : Nat) (a4 : Nat) (a5 : Option Addr) (a2 : Nat) (a3 : Nat) {V : Value} {Q : World → Prop} {w : World} (h : bytes_Equal.N a1 a0 a4 a5 a2 a3 (fun v w' => v = V ∧ Q w') w) : Calls Try.prog 64 #[.slice a1 a0 a4, .slice a5 a2 a3] w (Ret V Q) := (bytes_Equal.go a1 a0 a4 a5 a2 a3 h).mono fun e w' ⟨v, he, hv, hq⟩ => ⟨by rw [he, hv], hq⟩

/-- slices.EqualFunc[[][]byte,[][]byte,[]byte,[]byte] -/
def slices_EqualFunc_byte_byte_byte_byte.M (aj : Option Addr) (ab : Nat) (am : Nat) (ak : Option Addr) (ah : Nat) (an : Nat) (a0 : Nat) (a9 : Array Value) (a6 : Array Value) (R : Value → World → Prop) (w : World) : Prop :=
 bif (ab : Int) != (ah : Int) then (
 R (.bool false) w) else (
 ∃ (I0 : Nat → List Value → World → Prop) (m5 : Nat), I0 m5 [.int .i64 0] w ∧ ∀ (m6 : Nat) (a5 : World) (t4 : Int), I0 m6 [.int .i64 t4] a5 →
 bif decide (t4 < (ab : Int)) then (
 aj.elim False fun a8 =>
 0 ≤ (t4 : Int) ∧ (t4 : Int) < (ab : Int) ∧
 ∃ (ae : Option Addr) (af : Nat) (ad : Nat), a5.cell? (a8.add (Int.toNat t4 * 1)) = some (.slice ae af ad) ∧
 ak.elim False fun al =>
 0 ≤ (t4 : Int) ∧ (t4 : Int) < (ah : Int) ∧
 ∃ (a2 : Option Addr) (a3 : Nat) (a4 : Nat), a5.cell? (al.add (Int.toNat t4 * 1)) = some (.slice a2 a3 a4) ∧
 bif enters Try.prog a0 then Calls Try.prog a0 (a9.toList ++ ([.slice ae af ad, .slice a2 a3 a4] : List Value) ++ a6.toList).toArray a5 (fun ac aa => ∃ (a7 : Bool), ac = .returned (.bool a7) ∧
 bif !a7 then (
 R (.bool false) aa) else (
 ∃ ai, ai < m6 ∧ I0 ai [.int .i64 (IntKind.i64.wrap (t4 + 1))] aa)) else (∃ (a7 : Bool) (a1 : World), (externCall a0 (a9.toList ++ ([.slice ae af ad, .slice a2 a3 a4] : List Value) ++ a6.toList).toArray).run Try.prog a5 = .ok (.bool a7) a1 ∧
 bif !a7 then (
 R (.bool false) a1) else (
 ∃ ag, ag < m6 ∧ I0 ag [.int .i64 (IntKind.i64.wrap (t4 + 1))] a1))) else (
 R (.bool true) a5))

theorem slices_EqualFunc_byte_byte_byte_byte.eq (s1a : Option Addr) (s1n : Nat) (s1c : Nat) (s2a : Option Addr) (s2n : Nat) (s2c : Nat) (eq3k : Nat) (eq3f : Array Value) (eq3g : Array Value) (R : Value → World → Prop) (w : World) : mfunc Try.prog [(0, [1, 2, 15, 16], [(17, (.one (.int .i64)))])] 63 [.slice s1a s1n s1c, .slice s2a s2n s2c, .func (.func eq3k) eq3f eq3g] R w = slices_EqualFunc_byte_byte_byte_byte.M s1a s1n s1c s2a s2n s2c eq3k eq3f eq3g R w := by kernel_rfl
theorem slices_EqualFunc_byte_byte_byte_byte.ok (a8 : Option Addr) (a4 : Nat) (a5 : Nat) (a3 : Option Addr) (a6 : Nat) (a7 : Nat) (a1 : Nat) (a0 : Array Value) (a2 : Array Value) {R : Value → World → Prop} {w : World} (h : slices_EqualFunc_byte_byte_byte_byte.M a8 a4 a5 a3 a6 a7 a1 a0 a2 R w) : Calls Try.prog 63 #[.slice a8 a4 a5, .slice a3 a6 a7, .func (.func a1) a0 a2] w fun e w' => ∃ v, e = .returned v ∧ R v w' :=
  mfunc_ok follows (H := [(0, [1, 2, 15, 16], [(17, (.one (.int .i64)))])]) (args := [.slice a8 a4 a5, .slice a3 a6 a7, .func (.func a1) a0 a2]) (by rw [slices_EqualFunc_byte_byte_byte_byte.eq]; exact h)

def slices_EqualFunc_byte_byte_byte_byte.N (ai : Option Addr) (a1 : Nat) (ak : Nat) (aj : Option Addr) (aa : Nat) (al : Nat) (a0 : Nat) (ad : Array Value) (ab : Array Value) (R : Value → World → Prop) (w : World) : Prop :=
 ((a1 : Int) ≠ (aa : Int) →
 R (.bool false) w) ∧
 ((a1 : Int) = (aa : Int) →
 ∃ (I0 : Nat → List Value → World → Prop) (m6 : Nat), I0 m6 [.int .i64 0] w ∧ ∀ (m7 : Nat) (a5 : World) (t5 : Int), I0 m7 [.int .i64 t5] a5 →
 (t5 < (a1 : Int) →
 ∃ ah : Addr, ai = some ah ∧
 0 ≤ (t5 : Int) ∧ (t5 : Int) < (a1 : Int) ∧
 ∃ (a4 : Option Addr) (a2 : Nat) (a6 : Nat), a5.cell? (ah.add (Int.toNat t5 * 1)) = some (.slice a4 a2 a6) ∧
 ∃ ag : Addr, aj = some ag ∧
 0 ≤ (t5 : Int) ∧ (t5 : Int) < (aa : Int) ∧
 ∃ (a8 : Option Addr) (a3 : Nat) (a9 : Nat), a5.cell? (ag.add (Int.toNat t5 * 1)) = some (.slice a8 a3 a9) ∧
 enters Try.prog a0 = true ∧ Calls Try.prog a0 (ad.toList ++ ([.slice a4 a2 a6, .slice a8 a3 a9] : List Value) ++ ab.toList).toArray a5 (fun ae a7 => ∃ (ac : Bool), ae = .returned (.bool ac) ∧
 (ac = false →
 R (.bool false) a7) ∧
 (ac = true →
 (-9223372036854775808 : Int) ≤ (t5 + 1) ∧ (t5 + 1) < 9223372036854775808 ∧
 ∃ af, af < m7 ∧ I0 af [.int .i64 (t5 + 1)] a7))) ∧
 ((a1 : Int) ≤ t5 →
 R (.bool true) a5))

theorem slices_EqualFunc_byte_byte_byte_byte.up (ak : Option Addr) (ag : Nat) (ai : Nat) (al : Option Addr) (ah : Nat) (aj : Nat) (a0 : Nat) (a2 : Array Value) (a1 : Array Value) {R : Value → World → Prop} {w : World} (h : slices_EqualFunc_byte_byte_byte_byte.N ak ag ai al ah aj a0 a2 a1 R w) : slices_EqualFunc_byte_byte_byte_byte.M ak ag ai al ah aj a0 a2 a1 R w := by
  unfold slices_EqualFunc_byte_byte_byte_byte.M
  unfold slices_EqualFunc_byte_byte_byte_byte.N at h
  refine bif_of (fun c4 => ?_) (fun c4 => ?_)
  · have h := h.1 (bne_t c4)
    exact h
  · have h := h.2 (bne_f c4)
    obtain ⟨I0, m6, h0, h⟩ := h
    refine ⟨I0, m6, h0, fun m7 ap t5 hI => ?_⟩
    have h := h m7 ap t5 hI
    refine bif_of (fun c9 => ?_) (fun c9 => ?_)
    · have h := h.1 (of_decide_eq_true c9)
      obtain ⟨aw, a6, h⟩ := h
      refine elim_some a6 ?_
      obtain ⟨ab, a4, h⟩ := h
      refine ⟨ab, a4, ?_⟩
      obtain ⟨a8, a5, aa, ac, h⟩ := h
      refine ⟨a8, a5, aa, ac, ?_⟩
      obtain ⟨av, a3, h⟩ := h
      refine elim_some a3 ?_
      obtain ⟨ab, a4, h⟩ := h
      refine ⟨ab, a4, ?_⟩
      obtain ⟨ae, a7, af, a9, h⟩ := h
      refine ⟨ae, a7, af, a9, ?_⟩
      obtain ⟨hen, h⟩ := h
      refine bif_tt hen ?_
      refine h.mono fun ar au h => ?_
      obtain ⟨an, he, h⟩ := h
      refine ⟨an, he, ?_⟩
      refine bif_of (fun ad => ?_) (fun ad => ?_)
      · have h := h.1 (not_t ad)
        exact h
      · have h := h.2 (not_f ad)
        obtain ⟨aq, ao, h⟩ := h
        try rw [w64 aq ao]
        obtain ⟨am, hk, h⟩ := h
        exact ⟨am, hk, h⟩
    · have h := h.2 (Int.not_lt.1 (of_decide_eq_false c9))
      exact h

theorem slices_EqualFunc_byte_byte_byte_byte.go (a8 : Option Addr) (a4 : Nat) (a5 : Nat) (a3 : Option Addr) (a6 : Nat) (a7 : Nat) (a1 : Nat) (a0 : Array Value) (a2 : Array Value) {R : Value → World → Prop} {w : World} (h : slices_EqualFunc_byte_byte_byte_byte.N a8 a4 a5 a3 a6 a7 a1 a0 a2 R w) : Calls Try.prog 63 #[.slice a8 a4 a5, .slice a3 a6 a7, .func (.func a1) a0 a2] w fun e w' => ∃ v, e = .returned v ∧ R v w' := slices_EqualFunc_byte_byte_byte_byte.ok a8 a4 a5 a3 a6 a7 a1 a0 a2 (slices_EqualFunc_byte_byte_byte_byte.up a8 a4 a5 a3 a6 a7 a1 a0 a2 h)
theorem slices_EqualFunc_byte_byte_byte_byte.run (a8 : Option Addr) (a4 : Nat) (a5 : Nat) (a3 : Option Addr) (a6 : Nat) (a7 : Nat) (a1 : Nat) (a0 : Array Value) (a2 : Array Value) {V : Value} {Q : World → Prop} {w : World} (h : slices_EqualFunc_byte_byte_byte_byte.N a8 a4 a5 a3 a6 a7 a1 a0 a2 (fun v w' => v = V ∧ Q w') w) : Calls Try.prog 63 #[.slice a8 a4 a5, .slice a3 a6 a7, .func (.func a1) a0 a2] w (Ret V Q) := (slices_EqualFunc_byte_byte_byte_byte.go a8 a4 a5 a3 a6 a7 a1 a0 a2 h).mono fun e w' ⟨v, he, hv, hq⟩ => ⟨by rw [he, hv], hq⟩

/-- journal.record -/
def journal_record.M (ak : Option Addr) (b0 : Nat) (an : Nat) (b3 : Int) (b6 : Int) (R : Value → World → Prop) (w : World) : Prop :=
 bif (b0 : Int) == 0 then (
 R (.tuple #[.slice none 0 0, .int .i64 0]) w) else (
 ak.elim False fun a4 =>
 0 ≤ (0 : Int) ∧ (0 : Int) < (b0 : Int) ∧
 ∃ (bb : Option Addr) (bd : Nat) (bc : Nat), w.cell? (a4.add (Int.toNat 0 * 1)) = some (.slice bb bd bc) ∧
 Calls Try.prog 58 #[.slice bb bd bc] w fun bf av => ∃ (aq : Bool), bf = .returned (.bool aq) ∧
 bif !aq then (
 R (.tuple #[.slice none 0 0, .int .i64 0]) av) else (
 ak.elim False fun a9 =>
 0 ≤ (0 : Int) ∧ (0 : Int) < (b0 : Int) ∧
 ∃ (ah : Option Addr) (ai : Nat) (ap : Nat), av.cell? (a9.add (Int.toNat 0 * 1)) = some (.slice ah ai ap) ∧
 ah.elim False fun bi =>
 0 ≤ (14 : Int) ∧ (14 : Int) < (ai : Int) ∧
 ∃ (aj : Int), av.cell? (bi.add (Int.toNat 14 * 1)) = some (.int .u8 aj) ∧
 bif decide ((IntKind.i64.wrap aj) > (b0 : Int)) then (
 R (.tuple #[.slice none 0 0, .int .i64 0]) av) else (
 (0 : Int) ≤ ((IntKind.i64.wrap aj) : Int) ∧ ((IntKind.i64.wrap aj) : Int) ≤ (an : Int) ∧
 ∃ (I0 : Nat → List Value → World → Prop) (bj : Nat), I0 bj [.slice none 0 0, .int .i64 (IntKind.i64.wrap aj), .int .i64 0] av ∧ ∀ (b9 : Nat) (ad : World) (ae : Option Addr) (ac : Nat) (ab : Nat) (al : Int) (am : Int), I0 b9 [.slice ae ac ab, .int .i64 al, .int .i64 am] ad →
 bif decide (am < (((Int.toNat (IntKind.i64.wrap aj)) - 0 : Nat) : Int)) then (
 (if an = 0 then ak else Option.map (fun z : Addr => z.add (0 * 1)) ak).elim False fun be =>
 0 ≤ (am : Int) ∧ (am : Int) < (((Int.toNat (IntKind.i64.wrap aj)) - 0 : Nat) : Int) ∧
 ∃ (a6 : Option Addr) (aa : Nat) (a7 : Nat), ad.cell? (be.add (Int.toNat am * 1)) = some (.slice a6 aa a7) ∧
 Calls Try.prog 58 #[.slice a6 aa a7] ad fun b1 a8 => ∃ (af : Bool), b1 = .returned (.bool af) ∧
 bif !af then (
 R (.tuple #[.slice none 0 0, .int .i64 0]) a8) else (
 a6.elim False fun bh =>
 0 ≤ (15 : Int) ∧ (15 : Int) < (aa : Int) ∧
 ∃ (b8 : Int), a8.cell? (bh.add (Int.toNat 15 * 1)) = some (.int .u8 b8) ∧
 bif decide (b8 > 48) then (
 R (.tuple #[.slice none 0 0, .int .i64 0]) a8) else (
 a6.elim False fun bg =>
 0 ≤ (15 : Int) ∧ (15 : Int) < (aa : Int) ∧
 ∃ (ao : Int), a8.cell? (bg.add (Int.toNat 15 * 1)) = some (.int .u8 ao) ∧
 (0 : Int) ≤ ((IntKind.i64.wrap ((16 : Int) + (IntKind.i64.wrap ao))) : Int) ∧ ((IntKind.i64.wrap ((16 : Int) + (IntKind.i64.wrap ao))) : Int) ≤ (a7 : Int) ∧ (0 : Int) ≤ (16 : Int) ∧ (16 : Int) ≤ ((IntKind.i64.wrap ((16 : Int) + (IntKind.i64.wrap ao))) : Int) ∧
 ∃ (ax : Option Addr) (au : Nat) (ar : Nat) (ay : World), (Builtin.append_ #[30, 30] 30 #[.slice ae ac ab, .slice (if a7 = Int.toNat 16 then a6 else Option.map (fun z : Addr => z.add ((Int.toNat 16) * 1)) a6) ((Int.toNat (IntKind.i64.wrap ((16 : Int) + (IntKind.i64.wrap ao)))) - (Int.toNat 16)) (a7 - (Int.toNat 16))]).run Try.prog a8 = .ok (.slice ax au ar) ay ∧
 ∃ ba, ba < b9 ∧ I0 ba [.slice ax au ar, .int .i64 al, .int .i64 (IntKind.i64.wrap (am + 1))] ay))) else (
 Calls Try.prog 59 #[.slice ah ai ap, .int .i64 5] ad fun b5 b4 => ∃ (ag : Int), b5 = .returned (.int .u32 ag) ∧
 Calls Try.prog 53 #[.int .u32 b3, .int .u32 ag, .int .u32 b6, .slice ae ac ab] b4 fun b7 aw => ∃ (a1 : Option Addr) (a3 : Nat) (a2 : Nat) (a5 : Int), b7 = .returned (.tuple #[.slice a1 a3 a2, .int .i64 a5]) ∧
 bif a5 != 0 then (
 R (.tuple #[.slice none 0 0, .int .i64 0]) aw) else (
 (0 : Int) ≤ (al : Int) ∧ (al : Int) ≤ (an : Int) ∧
 Calls Try.prog 63 #[.slice a1 a3 a2, .slice (if an = 0 then ak else Option.map (fun z : Addr => z.add (0 * 1)) ak) ((Int.toNat al) - 0) (an - 0), .func (.func 64) #[] #[]] aw fun b2 az => ∃ (a0 : Bool), b2 = .returned (.bool a0) ∧
 bif !a0 then (
 R (.tuple #[.slice none 0 0, .int .i64 0]) az) else (
 R (.tuple #[.slice ae ac ab, .int .i64 al]) az))))))

theorem journal_record.eq (l1a : Option Addr) (l1n : Nat) (l1c : Nat) (gen2 : Int) (seq3 : Int) (R : Value → World → Prop) (w : World) : mfunc Try.prog [(0, [0, 1, 2, 8, 36, 37], [(6, (.one .slice)), (7, (.one (.int .i64))), (38, (.one (.int .i64)))])] 57 [.slice l1a l1n l1c, .int .u32 gen2, .int .u32 seq3] R w = journal_record.M l1a l1n l1c gen2 seq3 R w := by kernel_rfl
theorem journal_record.ok (a4 : Option Addr) (a3 : Nat) (a2 : Nat) (a0 : Int) (a1 : Int) {R : Value → World → Prop} {w : World} (h : journal_record.M a4 a3 a2 a0 a1 R w) : Calls Try.prog 57 #[.slice a4 a3 a2, .int .u32 a0, .int .u32 a1] w fun e w' => ∃ v, e = .returned v ∧ R v w' :=
  mfunc_ok follows (H := [(0, [0, 1, 2, 8, 36, 37], [(6, (.one .slice)), (7, (.one (.int .i64))), (38, (.one (.int .i64)))])]) (args := [.slice a4 a3 a2, .int .u32 a0, .int .u32 a1]) (by rw [journal_record.eq]; exact h)

def journal_record.N (b8 : Option Addr) (an : Nat) (ay : Nat) (b1 : Int) (b2 : Int) (R : Value → World → Prop) (w : World) : Prop :=
 ((an : Int) = 0 →
 R (.tuple #[.slice none 0 0, .int .i64 0]) w) ∧
 ((an : Int) ≠ 0 →
 ∃ a5 : Addr, b8 = some a5 ∧
 (0 : Int) < (an : Int) ∧
 ∃ (bb : Option Addr) (ba : Nat) (bd : Nat), w.cell? (a5.add (Int.toNat 0 * 1)) = some (.slice bb ba bd) ∧
 Calls Try.prog 58 #[.slice bb ba bd] w fun bf a7 => ∃ (am : Bool), bf = .returned (.bool am) ∧
 (am = false →
 R (.tuple #[.slice none 0 0, .int .i64 0]) a7) ∧
 (am = true →
 (0 : Int) < (an : Int) ∧
 ∃ (ak : Option Addr) (al : Nat) (ax : Nat), a7.cell? (a5.add (Int.toNat 0 * 1)) = some (.slice ak al ax) ∧
 ∃ be : Addr, ak = some be ∧
 (14 : Int) < (al : Int) ∧
 ∃ (a9 : Int), a7.cell? (be.add (Int.toNat 14 * 1)) = some (.int .u8 a9) ∧
 (-9223372036854775808 : Int) ≤ a9 ∧ a9 < 9223372036854775808 ∧
 (a9 > (an : Int) →
 R (.tuple #[.slice none 0 0, .int .i64 0]) a7) ∧
 (a9 ≤ (an : Int) →
 (0 : Int) ≤ (a9 : Int) ∧ (a9 : Int) ≤ (ay : Int) ∧ 
 ∃ (I0 : Nat → List Value → World → Prop) (bg : Nat), I0 bg [.slice none 0 0, .int .i64 a9, .int .i64 0] a7 ∧ ∀ (bc : Nat) (ab : World) (ae : Option Addr) (ah : Nat) (ac : Nat) (ao : Int) (ag : Int), I0 bc [.slice ae ah ac, .int .i64 ao, .int .i64 ag] ab →
 (ag < ((Int.toNat a9) : Int) →
 0 ≤ (ag : Int) ∧ (ag : Int) < ((Int.toNat a9) : Int) ∧
 ∃ (af : Option Addr) (ai : Nat) (aa : Nat), ab.cell? (a5.add (Int.toNat ag * 1)) = some (.slice af ai aa) ∧
 Calls Try.prog 58 #[.slice af ai aa] ab fun b6 a8 => ∃ (a6 : Bool), b6 = .returned (.bool a6) ∧
 (a6 = false →
 R (.tuple #[.slice none 0 0, .int .i64 0]) a8) ∧
 (a6 = true →
 ∃ b0 : Addr, af = some b0 ∧
 (15 : Int) < (ai : Int) ∧
 ∃ (b5 : Int), a8.cell? (b0.add (Int.toNat 15 * 1)) = some (.int .u8 b5) ∧
 (b5 > 48 →
 R (.tuple #[.slice none 0 0, .int .i64 0]) a8) ∧
 (b5 ≤ 48 →
 (15 : Int) < (ai : Int) ∧
 ∃ (ad : Int), a8.cell? (b0.add (Int.toNat 15 * 1)) = some (.int .u8 ad) ∧
 (-9223372036854775808 : Int) ≤ ad ∧ ad < 9223372036854775808 ∧
 (-9223372036854775808 : Int) ≤ ((16 : Int) + ad) ∧ ((16 : Int) + ad) < 9223372036854775808 ∧
 (0 : Int) ≤ (((16 : Int) + ad) : Int) ∧ (((16 : Int) + ad) : Int) ≤ (aa : Int) ∧ (16 : Int) ≤ (((16 : Int) + ad) : Int) ∧ 
 ∃ (ar : Option Addr) (aw : Nat) (aq : Nat) (ap : World), (Builtin.append_ #[30, 30] 30 #[.slice ae ah ac, .slice (cutA af aa 16 1) ((Int.toNat ((16 : Int) + ad)) - 16) (aa - 16)]).run Try.prog a8 = .ok (.slice ar aw aq) ap ∧
 (-9223372036854775808 : Int) ≤ (ag + 1) ∧ (ag + 1) < 9223372036854775808 ∧
 ∃ b9, b9 < bc ∧ I0 b9 [.slice ar aw aq, .int .i64 ao, .int .i64 (ag + 1)] ap))) ∧
 (((Int.toNat a9) : Int) ≤ ag →
 Calls Try.prog 59 #[.slice ak al ax, .int .i64 5] ab fun az b4 => ∃ (aj : Int), az = .returned (.int .u32 aj) ∧
 Calls Try.prog 53 #[.int .u32 b1, .int .u32 aj, .int .u32 b2, .slice ae ah ac] b4 fun b3 au => ∃ (a4 : Option Addr) (a3 : Nat) (a2 : Nat) (a1 : Int), b3 = .returned (.tuple #[.slice a4 a3 a2, .int .i64 a1]) ∧
 (a1 ≠ 0 →
 R (.tuple #[.slice none 0 0, .int .i64 0]) au) ∧
 (a1 = 0 →
 (0 : Int) ≤ (ao : Int) ∧ (ao : Int) ≤ (ay : Int) ∧ 
 Calls Try.prog 63 #[.slice a4 a3 a2, .slice b8 (Int.toNat ao) ay, .func (.func 64) #[] #[]] au fun b7 av => ∃ (a0 : Bool), b7 = .returned (.bool a0) ∧
 (a0 = false →
 R (.tuple #[.slice none 0 0, .int .i64 0]) av) ∧
 (a0 = true →
 R (.tuple #[.slice ae ah ac, .int .i64 ao]) av))))))

theorem journal_record.up (bd : Option Addr) (bc : Nat) (bb : Nat) (ab : Int) (ae : Int) {R : Value → World → Prop} {w : World} (h : journal_record.N bd bc bb ab ae R w) : journal_record.M bd bc bb ab ae R w := by
  unfold journal_record.M
  unfold journal_record.N at h
  refine bif_of (fun c4 => ?_) (fun c4 => ?_)
  · have h := h.1 (beq_t c4)
    exact h
  · have h := h.2 (beq_f c4)
    obtain ⟨a5, ba, h⟩ := h
    refine elim_some ba ?_
    obtain ⟨a1, h⟩ := h
    refine ⟨by decide, a1, ?_⟩
    obtain ⟨bh, bg, bs, bw, h⟩ := h
    refine ⟨bh, bg, bs, bw, ?_⟩
    refine h.mono fun c2 bl h => ?_
    obtain ⟨b8, he, h⟩ := h
    refine ⟨b8, he, ?_⟩
    refine bif_of (fun b4 => ?_) (fun b4 => ?_)
    · have h := h.1 (not_t b4)
      exact h
    · have h := h.2 (not_f b4)
      refine elim_some ba ?_
      obtain ⟨a1, h⟩ := h
      refine ⟨by decide, a1, ?_⟩
      obtain ⟨aw, az, b9, b3, h⟩ := h
      refine ⟨aw, az, b9, b3, ?_⟩
      obtain ⟨c3, ax, h⟩ := h
      refine elim_some ax ?_
      obtain ⟨a1, h⟩ := h
      refine ⟨by decide, a1, ?_⟩
      obtain ⟨bt, b0, h⟩ := h
      refine ⟨bt, b0, ?_⟩
      obtain ⟨a8, a7, h⟩ := h
      try rw [w64 a8 a7]
      refine bif_of (fun au => ?_) (fun au => ?_)
      · have h := h.1 (of_decide_eq_true au)
        exact h
      · have h := h.2 (Int.not_lt.1 (of_decide_eq_false au))
        obtain ⟨ad, a9, h⟩ := h
        refine ⟨ad, a9, ?_⟩
        try rw [cut_zero]
        obtain ⟨I0, c0, h0, h⟩ := h
        refine ⟨I0, c0, h0, fun bp ai ar ay aj bq bk hI => ?_⟩
        have h := h bp ai ar ay aj bq bk hI
        refine bif_of (fun al => ?_) (fun al => ?_)
        · have h := h.1 (of_decide_eq_true al)
          refine elim_some ba ?_
          obtain ⟨a9, a1, h⟩ := h
          refine ⟨a9, a1, ?_⟩
          obtain ⟨av, b6, b5, ap, h⟩ := h
          refine ⟨av, b6, b5, ap, ?_⟩
          refine h.mono fun bx br h => ?_
          obtain ⟨aa, he, h⟩ := h
          refine ⟨aa, he, ?_⟩
          refine bif_of (fun b1 => ?_) (fun b1 => ?_)
          · have h := h.1 (not_t b1)
            exact h
          · have h := h.2 (not_f b1)
            obtain ⟨c1, ac, h⟩ := h
            refine elim_some ac ?_
            obtain ⟨a1, h⟩ := h
            refine ⟨by decide, a1, ?_⟩
            obtain ⟨bv, ah, h⟩ := h
            refine ⟨bv, ah, ?_⟩
            refine bif_of (fun b7 => ?_) (fun b7 => ?_)
            · have h := h.1 (of_decide_eq_true b7)
              exact h
            · have h := h.2 (Int.not_lt.1 (of_decide_eq_false b7))
              refine elim_some ac ?_
              obtain ⟨a1, h⟩ := h
              refine ⟨by decide, a1, ?_⟩
              obtain ⟨bi, ag, h⟩ := h
              refine ⟨bi, ag, ?_⟩
              obtain ⟨a8, a7, h⟩ := h
              try rw [w64 a8 a7]
              obtain ⟨a8, a7, h⟩ := h
              try rw [w64 a8 a7]
              obtain ⟨ad, a9, bu, h⟩ := h
              refine ⟨ad, a9, by decide, bu, ?_⟩
              obtain ⟨am, b2, an, ak, hr, h⟩ := h
              refine ⟨am, b2, an, ak, hr, ?_⟩
              obtain ⟨a8, a7, h⟩ := h
              try rw [w64 a8 a7]
              obtain ⟨bf, hk, h⟩ := h
              exact ⟨bf, hk, h⟩
        · have h := h.2 (Int.not_lt.1 (of_decide_eq_false al))
          refine h.mono fun be bo h => ?_
          obtain ⟨af, he, h⟩ := h
          refine ⟨af, he, ?_⟩
          refine h.mono fun bn bj h => ?_
          obtain ⟨a4, a3, a2, a6, he, h⟩ := h
          refine ⟨a4, a3, a2, a6, he, ?_⟩
          refine bif_of (fun ao => ?_) (fun ao => ?_)
          · have h := h.1 (bne_t ao)
            exact h
          · have h := h.2 (bne_f ao)
            obtain ⟨ad, a9, h⟩ := h
            refine ⟨ad, a9, ?_⟩
            try rw [cut_zero]
            refine h.mono fun bz bm h => ?_
            obtain ⟨a0, he, h⟩ := h
            refine ⟨a0, he, ?_⟩
            refine bif_of (fun aq => ?_) (fun aq => ?_)
            · have h := h.1 (not_t aq)
              exact h
            · have h := h.2 (not_f aq)
              exact h

theorem journal_record.go (a4 : Option Addr) (a3 : Nat) (a2 : Nat) (a0 : Int) (a1 : Int) {R : Value → World → Prop} {w : World} (h : journal_record.N a4 a3 a2 a0 a1 R w) : Calls Try.prog 57 #[.slice a4 a3 a2, .int .u32 a0, .int .u32 a1] w fun e w' => ∃ v, e = .returned v ∧ R v w' := journal_record.ok a4 a3 a2 a0 a1 (journal_record.up a4 a3 a2 a0 a1 h)
/-- journal.Scan -/
def journal_Scan.M (ar : Option Addr) (ap : Nat) (b0 : Nat) (al : Int) (R : Value → World → Prop) (w : World) : Prop :=
 ∃ (I0 : Nat → List Value → World → Prop) (m5 : Nat), I0 m5 [.slice none 0 0, .int .i64 0] w ∧ ∀ (m6 : Nat) (b2 : World) (a4 : Option Addr) (a0 : Nat) (a3 : Nat) (a2 : Int), I0 m6 [.slice a4 a0 a3, .int .i64 a2] b2 →
 (0 : Int) ≤ (a2 : Int) ∧ (a2 : Int) ≤ (ap : Int) ∧
 Calls Try.prog 57 #[.slice (if b0 = Int.toNat a2 then ar else Option.map (fun z : Addr => z.add ((Int.toNat a2) * 1)) ar) (ap - (Int.toNat a2)) (b0 - (Int.toNat a2)), .int .u32 al, .int .u32 (IntKind.u32.wrap (a0 : Int))] b2 fun au ah => ∃ (a6 : Option Addr) (a7 : Nat) (a8 : Nat) (a5 : Int), au = .returned (.tuple #[.slice a6 a7 a8, .int .i64 a5]) ∧
 bif a5 == 0 then (
 ∃ (I2 : Nat → List Value → World → Prop) (b6 : Nat), I2 b6 [.int .u32 0, .int .i64 0] ah ∧ ∀ (aq : Nat) (ab : World) (a1 : Int) (ae : Int), I2 aq [.int .u32 a1, .int .i64 ae] ab →
 bif decide (ae < (ap : Int)) then (
 ar.elim False fun b7 =>
 0 ≤ (ae : Int) ∧ (ae : Int) < (ap : Int) ∧
 ∃ (ac : Option Addr) (aa : Nat) (ad : Nat), ab.cell? (b7.add (Int.toNat ae * 1)) = some (.slice ac aa ad) ∧
 Calls Try.prog 58 #[.slice ac aa ad] ab fun az ai => ∃ (af : Bool), az = .returned (.bool af) ∧
 bif af then (
 Calls Try.prog 59 #[.slice ac aa ad, .int .i64 1] ai fun ay aj => ∃ (ag : Int), ay = .returned (.int .u32 ag) ∧
 bif ag == al then (
 Calls Try.prog 59 #[.slice ac aa ad, .int .i64 5] aj fun aw av => ∃ (a9 : Int), aw = .returned (.int .u32 a9) ∧
 ∃ b4, b4 < aq ∧ I2 b4 [.int .u32 (if (a9 : Int) > a1 then a9 else a1), .int .i64 (IntKind.i64.wrap (ae + 1))] av) else (
 ∃ b1, b1 < aq ∧ I2 b1 [.int .u32 a1, .int .i64 (IntKind.i64.wrap (ae + 1))] aj)) else (
 ∃ b3, b3 < aq ∧ I2 b3 [.int .u32 a1, .int .i64 (IntKind.i64.wrap (ae + 1))] ai)) else (
 R (.tuple #[.slice a4 a0 a3, .int .i64 a2, .int .u32 a1]) ab)) else (
 thenW (ah.alloc (.cells #[.slice a6 a7 a8] 30)) fun ax =>
 ∃ (ak : Option Addr) (ao : Nat) (an : Nat) (am : World), (Builtin.append_ #[31, 31] 31 #[.slice a4 a0 a3, .slice (some (blk ah.heap.size)) 1 1]).run Try.prog ax = .ok (.slice ak ao an) am ∧
 ∃ b5, b5 < m6 ∧ I0 b5 [.slice ak ao an, .int .i64 (IntKind.i64.wrap (a2 + a5))] am)

theorem journal_Scan.eq (l1a : Option Addr) (l1n : Nat) (l1c : Nat) (gen2 : Int) (R : Value → World → Prop) (w : World) : mfunc Try.prog [(0, [0, 1, 6], [(4, (.one .slice)), (5, (.one (.int .i64)))]), (2, [1, 4, 5, 32, 33], [(6, (.one (.int .u32))), (34, (.one (.int .i64)))])] 52 [.slice l1a l1n l1c, .int .u32 gen2] R w = journal_Scan.M l1a l1n l1c gen2 R w := by kernel_rfl
theorem journal_Scan.ok (a3 : Option Addr) (a2 : Nat) (a1 : Nat) (a0 : Int) {R : Value → World → Prop} {w : World} (h : journal_Scan.M a3 a2 a1 a0 R w) : Calls Try.prog 52 #[.slice a3 a2 a1, .int .u32 a0] w fun e w' => ∃ v, e = .returned v ∧ R v w' :=
  mfunc_ok follows (H := [(0, [0, 1, 6], [(4, (.one .slice)), (5, (.one (.int .i64)))]), (2, [1, 4, 5, 32, 33], [(6, (.one (.int .u32))), (34, (.one (.int .i64)))])]) (args := [.slice a3 a2 a1, .int .u32 a0]) (by rw [journal_Scan.eq]; exact h)

def journal_Scan.N (b1 : Option Addr) (ak : Nat) (b0 : Nat) (aj : Int) (R : Value → World → Prop) (w : World) : Prop :=
 ∃ (I0 : Nat → List Value → World → Prop) (m5 : Nat), I0 m5 [.slice none 0 0, .int .i64 0] w ∧ ∀ (m6 : Nat) (b4 : World) (a5 : Option Addr) (a2 : Nat) (a4 : Nat) (a3 : Int), I0 m6 [.slice a5 a2 a4, .int .i64 a3] b4 →
 (0 : Int) ≤ (a3 : Int) ∧ (a3 : Int) ≤ (ak : Int) ∧ 
 Calls Try.prog 57 #[.slice (cutA b1 b0 (Int.toNat a3) 1) (ak - (Int.toNat a3)) (b0 - (Int.toNat a3)), .int .u32 aj, .int .u32 (IntKind.u32.wrap (a2 : Int))] b4 fun av ai => ∃ (a6 : Option Addr) (a7 : Nat) (a8 : Nat) (a1 : Int), av = .returned (.tuple #[.slice a6 a7 a8, .int .i64 a1]) ∧
 (a1 = 0 →
 ∃ (I2 : Nat → List Value → World → Prop) (b8 : Nat), I2 b8 [.int .u32 0, .int .i64 0] ai ∧ ∀ (au : Nat) (ad : World) (a0 : Int) (a9 : Int), I2 au [.int .u32 a0, .int .i64 a9] ad →
 (a9 < (ak : Int) →
 ∃ b3 : Addr, b1 = some b3 ∧
 0 ≤ (a9 : Int) ∧ (a9 : Int) < (ak : Int) ∧
 ∃ (af : Option Addr) (ah : Nat) (ae : Nat), ad.cell? (b3.add (Int.toNat a9 * 1)) = some (.slice af ah ae) ∧
 Calls Try.prog 58 #[.slice af ah ae] ad fun ax am => ∃ (ac : Bool), ax = .returned (.bool ac) ∧
 (ac = true →
 Calls Try.prog 59 #[.slice af ah ae, .int .i64 1] am fun ay aq => ∃ (ab : Int), ay = .returned (.int .u32 ab) ∧
 (ab = aj →
 Calls Try.prog 59 #[.slice af ah ae, .int .i64 5] aq fun aw az => ∃ (aa : Int), aw = .returned (.int .u32 aa) ∧
 (-9223372036854775808 : Int) ≤ (a9 + 1) ∧ (a9 + 1) < 9223372036854775808 ∧
 ∃ b2, b2 < au ∧ I2 b2 [.int .u32 (if (aa : Int) > a0 then aa else a0), .int .i64 (a9 + 1)] az) ∧
 (ab ≠ aj →
 (-9223372036854775808 : Int) ≤ (a9 + 1) ∧ (a9 + 1) < 9223372036854775808 ∧
 ∃ b7, b7 < au ∧ I2 b7 [.int .u32 a0, .int .i64 (a9 + 1)] aq)) ∧
 (ac = false →
 (-9223372036854775808 : Int) ≤ (a9 + 1) ∧ (a9 + 1) < 9223372036854775808 ∧
 ∃ b6, b6 < au ∧ I2 b6 [.int .u32 a0, .int .i64 (a9 + 1)] am)) ∧
 ((ak : Int) ≤ a9 →
 R (.tuple #[.slice a5 a2 a4, .int .i64 a3, .int .u32 a0]) ad)) ∧
 (a1 ≠ 0 →
 ∀ (ag : World) (ar : Nat), Ext no ai ag → Blk ag ar 30 [.slice a6 a7 a8] → ai.heap.size ≤ ar → ar < ag.heap.size →
 ∃ (ap : Option Addr) (ao : Nat) (an : Nat) (al : World), (Builtin.append_ #[31, 31] 31 #[.slice a5 a2 a4, .slice (some (blk ar)) 1 1]).run Try.prog ag = .ok (.slice ap ao an) al ∧
 (-9223372036854775808 : Int) ≤ (a3 + a1) ∧ (a3 + a1) < 9223372036854775808 ∧
 ∃ b5, b5 < m6 ∧ I0 b5 [.slice ap ao an, .int .i64 (a3 + a1)] al)

theorem journal_Scan.up (b1 : Option Addr) (b0 : Nat) (az : Nat) (ad : Int) {R : Value → World → Prop} {w : World} (h : journal_Scan.N b1 b0 az ad R w) : journal_Scan.M b1 b0 az ad R w := by
  unfold journal_Scan.M
  unfold journal_Scan.N at h
  obtain ⟨I0, m5, h0, h⟩ := h
  refine ⟨I0, m5, h0, fun m6 b5 a1 a2 a0 ab hI => ?_⟩
  have h := h m6 b5 a1 a2 a0 ab hI
  obtain ⟨bb, au, h⟩ := h
  refine ⟨bb, au, ?_⟩
  refine h.mono fun b6 a8 h => ?_
  obtain ⟨a3, a4, a5, a7, he, h⟩ := h
  refine ⟨a3, a4, a5, a7, he, ?_⟩
  refine bif_of (fun ag => ?_) (fun ag => ?_)
  · have h := h.1 (beq_t ag)
    obtain ⟨I2, be, h0, h⟩ := h
    refine ⟨I2, be, h0, fun bg ah a6 bd hI => ?_⟩
    have h := h bg ah a6 bd hI
    refine bif_of (fun ap => ?_) (fun ap => ?_)
    · have h := h.1 (of_decide_eq_true ap)
      obtain ⟨bj, aq, h⟩ := h
      refine elim_some aq ?_
      obtain ⟨au, b2, h⟩ := h
      refine ⟨au, b2, ?_⟩
      obtain ⟨av, ax, ar, ay, h⟩ := h
      refine ⟨av, ax, ar, ay, ?_⟩
      refine h.mono fun b9 b4 h => ?_
      obtain ⟨af, he, h⟩ := h
      refine ⟨af, he, ?_⟩
      refine bif_of (fun ak => ?_) (fun ak => ?_)
      · have h := h.1 ak
        refine h.mono fun ba bc h => ?_
        obtain ⟨ae, he, h⟩ := h
        refine ⟨ae, he, ?_⟩
        refine bif_of (fun am => ?_) (fun am => ?_)
        · have h := h.1 (beq_t am)
          refine h.mono fun b8 bi h => ?_
          obtain ⟨ac, he, h⟩ := h
          refine ⟨ac, he, ?_⟩
          obtain ⟨aa, a9, h⟩ := h
          try rw [w64 aa a9]
          obtain ⟨b3, hk, h⟩ := h
          exact ⟨b3, hk, h⟩
        · have h := h.2 (beq_f am)
          obtain ⟨aa, a9, h⟩ := h
          try rw [w64 aa a9]
          obtain ⟨bh, hk, h⟩ := h
          exact ⟨bh, hk, h⟩
      · have h := h.2 ak
        obtain ⟨aa, a9, h⟩ := h
        try rw [w64 aa a9]
        obtain ⟨bf, hk, h⟩ := h
        exact ⟨bf, hk, h⟩
    · have h := h.2 (Int.not_lt.1 (of_decide_eq_false ap))
      exact h
  · have h := h.2 (beq_f ag)
    refine thenW_in fun aw ao => ?_
    have h := h aw a8.heap.size ((Ext.refl no a8).x_alloc ao) (Blk.of_new ao) ((Ext.refl no a8)).size (size_lt_alloc ao)
    obtain ⟨an, al, aj, ai, hr, h⟩ := h
    refine ⟨an, al, aj, ai, hr, ?_⟩
    obtain ⟨aa, a9, h⟩ := h
    try rw [w64 aa a9]
    obtain ⟨b7, hk, h⟩ := h
    exact ⟨b7, hk, h⟩

theorem journal_Scan.go (a3 : Option Addr) (a2 : Nat) (a1 : Nat) (a0 : Int) {R : Value → World → Prop} {w : World} (h : journal_Scan.N a3 a2 a1 a0 R w) : Calls Try.prog 52 #[.slice a3 a2 a1, .int .u32 a0] w fun e w' => ∃ v, e = .returned v ∧ R v w' := journal_Scan.ok a3 a2 a1 a0 (journal_Scan.up a3 a2 a1 a0 h)
/-- cachetteref10.stands -/
def cachetteref10_stands.M (aj : Option Addr) (ac : Nat) (c9 : Nat) (bg : Int) (bj : Int) (R : Value → World → Prop) (w : World) : Prop :=
 bif (ac : Int) == 0 then (
 R (.tuple #[.slice none 0 0, .int .i64 0]) w) else (
 aj.elim False fun a4 =>
 0 ≤ (0 : Int) ∧ (0 : Int) < (ac : Int) ∧
 ∃ (c6 : Option Addr) (bs : Nat) (c7 : Nat), w.cell? (a4.add (Int.toNat 0 * 1)) = some (.slice c6 bs c7) ∧
 bif (bs : Int) != 64 then (
 R (.tuple #[.slice none 0 0, .int .i64 0]) w) else (
 thenW (w.drew) fun bb =>
 aj.elim False fun a7 =>
 0 ≤ (0 : Int) ∧ (0 : Int) < (ac : Int) ∧
 ∃ (bl : Option Addr) (c3 : Nat) (bc : Nat), bb.cell? (a7.add (Int.toNat 0 * 1)) = some (.slice bl c3 bc) ∧
 (0 : Int) ≤ (9 : Int) ∧ (9 : Int) ≤ (bc : Int) ∧ (0 : Int) ≤ (5 : Int) ∧ (5 : Int) ≤ (9 : Int) ∧
 aj.elim False fun a9 =>
 0 ≤ (0 : Int) ∧ (0 : Int) < (ac : Int) ∧
 ∃ (al : Option Addr) (am : Nat) (av : Nat), bb.cell? (a9.add (Int.toNat 0 * 1)) = some (.slice al am av) ∧
 al.elim False fun bq =>
 0 ≤ (14 : Int) ∧ (14 : Int) < (am : Int) ∧
 ∃ (ak : Int), bb.cell? (bq.add (Int.toNat 14 * 1)) = some (.int .u8 ak) ∧
 Calls Try.prog 56 #[.slice (if bc = Int.toNat 5 then bl else Option.map (fun z : Addr => z.add ((Int.toNat 5) * 1)) bl) ((Int.toNat 9) - (Int.toNat 5)) (bc - (Int.toNat 5))] bb fun bk a8 => ∃ (a1 : Int), bk = .returned (.int .u32 a1) ∧
 a8.cell? (bq.add (Int.toNat 14 * 1)) = some (.int .u8 ak) ∧
 a8.cell? (a9.add (Int.toNat 0 * 1)) = some (.slice al am av) ∧
 bif a1 == 0 then (
 R (.tuple #[.slice none 0 0, .int .i64 0]) a8) else (
 bif (IntKind.i64.wrap ak) == 0 then (
 R (.tuple #[.slice none 0 0, .int .i64 0]) a8) else (
 bif decide ((IntKind.i64.wrap ak) > (ac : Int)) then (
 R (.tuple #[.slice none 0 0, .int .i64 0]) a8) else (
 ∃ (I0 : Nat → List Value → World → Prop) (c2 : Nat), I0 c2 [.slice none 0 0, .int .i64 0] a8 ∧ ∀ (bt : Nat) (a2 : World) (ag : Option Addr) (ai : Nat) (ad : Nat) (a5 : Int), I0 bt [.slice ag ai ad, .int .i64 a5] a2 →
 bif decide (a5 < (IntKind.i64.wrap ak)) then (
 aj.elim False fun bz =>
 0 ≤ (a5 : Int) ∧ (a5 : Int) < (ac : Int) ∧
 ∃ (bd : Option Addr) (b4 : Nat) (bf : Nat), a2.cell? (bz.add (Int.toNat a5 * 1)) = some (.slice bd b4 bf) ∧
 bif (b4 : Int) != 64 then (
 R (.tuple #[.slice none 0 0, .int .i64 0]) a2) else (
 aj.elim False fun c1 =>
 0 ≤ (a5 : Int) ∧ (a5 : Int) < (ac : Int) ∧
 ∃ (ba : Option Addr) (b6 : Nat) (bi : Nat), a2.cell? (c1.add (Int.toNat a5 * 1)) = some (.slice ba b6 bi) ∧
 ba.elim False fun c4 =>
 0 ≤ (15 : Int) ∧ (15 : Int) < (b6 : Int) ∧
 ∃ (bo : Int), a2.cell? (c4.add (Int.toNat 15 * 1)) = some (.int .u8 bo) ∧
 bif decide (bo > 48) then (
 R (.tuple #[.slice none 0 0, .int .i64 0]) a2) else (
 thenW (a2.drew) fun ae =>
 aj.elim False fun bw =>
 0 ≤ (a5 : Int) ∧ (a5 : Int) < (ac : Int) ∧
 ∃ (ao : Option Addr) (bh : Nat) (ah : Nat), ae.cell? (bw.add (Int.toNat a5 * 1)) = some (.slice ao bh ah) ∧
 aj.elim False fun c0 =>
 0 ≤ (a5 : Int) ∧ (a5 : Int) < (ac : Int) ∧
 ∃ (b8 : Option Addr) (b9 : Nat) (bm : Nat), ae.cell? (c0.add (Int.toNat a5 * 1)) = some (.slice b8 b9 bm) ∧
 b8.elim False fun c5 =>
 0 ≤ (15 : Int) ∧ (15 : Int) < (b9 : Int) ∧
 ∃ (b2 : Int), ae.cell? (c5.add (Int.toNat 15 * 1)) = some (.int .u8 b2) ∧
 (0 : Int) ≤ ((IntKind.i64.wrap ((16 : Int) + (IntKind.i64.wrap b2))) : Int) ∧ ((IntKind.i64.wrap ((16 : Int) + (IntKind.i64.wrap b2))) : Int) ≤ (ah : Int) ∧ (0 : Int) ≤ (16 : Int) ∧ (16 : Int) ≤ ((IntKind.i64.wrap ((16 : Int) + (IntKind.i64.wrap b2))) : Int) ∧
 ∃ (ay : Option Addr) (au : Nat) (b7 : Nat) (ax : World), (Builtin.append_ #[30, 30] 30 #[.slice ag ai ad, .slice (if ah = Int.toNat 16 then ao else Option.map (fun z : Addr => z.add ((Int.toNat 16) * 1)) ao) ((Int.toNat (IntKind.i64.wrap ((16 : Int) + (IntKind.i64.wrap b2)))) - (Int.toNat 16)) (ah - (Int.toNat 16))]).run Try.prog ae = .ok (.slice ay au b7) ax ∧
 ∃ bp, bp < bt ∧ I0 bp [.slice ay au b7, .int .i64 (IntKind.i64.wrap (a5 + 1))] ax))) else (
 Calls Try.prog 62 #[.int .u32 bg, .int .u32 a1, .int .u32 bj, .slice ag ai ad] a2 fun be ap => ∃ (a3 : Option Addr) (a0 : Nat) (aa : Nat) (a6 : Int), be = .returned (.tuple #[.slice a3 a0 aa, .int .i64 a6]) ∧
 bif a6 != 0 then (
 R (.tuple #[.slice none 0 0, .int .i64 0]) ap) else (
 bif (a0 : Int) != (IntKind.i64.wrap ak) then (
 R (.tuple #[.slice none 0 0, .int .i64 0]) ap) else (
 ∃ (I2 : Nat → List Value → World → Prop) (bx : Nat), I2 bx [.int .i64 0] ap ∧ ∀ (br : Nat) (an : World) (af : Int), I2 br [.int .i64 af] an →
 bif decide (af < (IntKind.i64.wrap ak)) then (
 thenW (an.drew) fun aq =>
 a3.elim False fun bv =>
 0 ≤ (af : Int) ∧ (af : Int) < (a0 : Int) ∧
 ∃ (ar : Option Addr) (b5 : Nat) (az : Nat), aq.cell? (bv.add (Int.toNat af * 1)) = some (.slice ar b5 az) ∧
 aj.elim False fun c8 =>
 0 ≤ (af : Int) ∧ (af : Int) < (ac : Int) ∧
 ∃ (b0 : Option Addr) (b1 : Nat) (b3 : Nat), aq.cell? (c8.add (Int.toNat af * 1)) = some (.slice b0 b1 b3) ∧
 Calls Try.prog 21 #[.slice ar b5 az, .slice b0 b1 b3] aq fun bn aw => ∃ (ab : Bool), bn = .returned (.bool ab) ∧
 bif !ab then (
 R (.tuple #[.slice none 0 0, .int .i64 0]) aw) else (
 ∃ bu, bu < br ∧ I2 bu [.int .i64 (IntKind.i64.wrap (af + 1))] aw)) else (
 R (.tuple #[.slice ag ai ad, .int .i64 (IntKind.i64.wrap ak)]) an)))))))))

theorem cachetteref10_stands.eq (l1a : Option Addr) (l1n : Nat) (l1c : Nat) (gen2 : Int) (seq3 : Int) (R : Value → World → Prop) (w : World) : mfunc Try.prog [(0, [0, 1, 2, 8, 9], [(10, (.one .slice)), (11, (.one (.int .i64)))]), (2, [0, 9, 10, 12], [(14, (.one (.int .i64)))])] 55 [.slice l1a l1n l1c, .int .u32 gen2, .int .u32 seq3] R w = cachetteref10_stands.M l1a l1n l1c gen2 seq3 R w := by kernel_rfl
theorem cachetteref10_stands.ok (a4 : Option Addr) (a3 : Nat) (a2 : Nat) (a0 : Int) (a1 : Int) {R : Value → World → Prop} {w : World} (h : cachetteref10_stands.M a4 a3 a2 a0 a1 R w) : Calls Try.prog 55 #[.slice a4 a3 a2, .int .u32 a0, .int .u32 a1] w fun e w' => ∃ v, e = .returned v ∧ R v w' :=
  mfunc_ok follows (H := [(0, [0, 1, 2, 8, 9], [(10, (.one .slice)), (11, (.one (.int .i64)))]), (2, [0, 9, 10, 12], [(14, (.one (.int .i64)))])]) (args := [.slice a4 a3 a2, .int .u32 a0, .int .u32 a1]) (by rw [cachetteref10_stands.eq]; exact h)

def cachetteref10_stands.N (bx : Option Addr) (aa : Nat) (c2 : Nat) (bd : Int) (bf : Int) (R : Value → World → Prop) (w : World) : Prop :=
 ((aa : Int) = 0 →
 R (.tuple #[.slice none 0 0, .int .i64 0]) w) ∧
 ((aa : Int) ≠ 0 →
 ∃ a5 : Addr, bx = some a5 ∧
 (0 : Int) < (aa : Int) ∧
 ∃ (bz : Option Addr) (bc : Nat) (c0 : Nat), w.cell? (a5.add (Int.toNat 0 * 1)) = some (.slice bz bc c0) ∧
 ((bc : Int) ≠ 64 →
 R (.tuple #[.slice none 0 0, .int .i64 0]) w) ∧
 ((bc : Int) = 64 →
 (0 : Int) < (aa : Int) ∧
 ∃ (au : Option Addr) (bg : Nat) (ah : Nat), w.cell? (a5.add (Int.toNat 0 * 1)) = some (.slice au bg ah) ∧
 (9 : Int) ≤ (ah : Int) ∧ 
 (0 : Int) < (aa : Int) ∧
 ∃ (al : Option Addr) (am : Nat) (b6 : Nat), w.cell? (a5.add (Int.toNat 0 * 1)) = some (.slice al am b6) ∧
 ∃ bj : Addr, al = some bj ∧
 (14 : Int) < (am : Int) ∧
 ∃ (a8 : Int), w.cell? (bj.add (Int.toNat 14 * 1)) = some (.int .u8 a8) ∧
 (-9223372036854775808 : Int) ≤ a8 ∧ a8 < 9223372036854775808 ∧
 ∀ (bu : World), Ext no w bu →
 Calls Try.prog 56 #[.slice (cutA au ah 5 1) (9 - 5) (ah - 5)] bu fun bi a9 => ∃ (a0 : Int), bi = .returned (.int .u32 a0) ∧
 a9.cell? (bj.add (Int.toNat 14 * 1)) = some (.int .u8 a8) ∧
 a9.cell? (a5.add (Int.toNat 0 * 1)) = some (.slice al am b6) ∧
 (a0 = 0 →
 R (.tuple #[.slice none 0 0, .int .i64 0]) a9) ∧
 (a0 ≠ 0 →
 (a8 = 0 →
 R (.tuple #[.slice none 0 0, .int .i64 0]) a9) ∧
 (a8 ≠ 0 →
 (a8 > (aa : Int) →
 R (.tuple #[.slice none 0 0, .int .i64 0]) a9) ∧
 (a8 ≤ (aa : Int) →
 ∃ (I0 : Nat → List Value → World → Prop) (bw : Nat), I0 bw [.slice none 0 0, .int .i64 0] a9 ∧ ∀ (bs : Nat) (a2 : World) (ag : Option Addr) (ai : Nat) (af : Nat) (a4 : Int), I0 bs [.slice ag ai af, .int .i64 a4] a2 →
 (a4 < a8 →
 0 ≤ (a4 : Int) ∧ (a4 : Int) < (aa : Int) ∧
 ∃ (bh : Option Addr) (ak : Nat) (bk : Nat), a2.cell? (a5.add (Int.toNat a4 * 1)) = some (.slice bh ak bk) ∧
 ((ak : Int) ≠ 64 →
 R (.tuple #[.slice none 0 0, .int .i64 0]) a2) ∧
 ((ak : Int) = 64 →
 0 ≤ (a4 : Int) ∧ (a4 : Int) < (aa : Int) ∧
 ∃ (b7 : Option Addr) (aq : Nat) (bb : Nat), a2.cell? (a5.add (Int.toNat a4 * 1)) = some (.slice b7 aq bb) ∧
 ∃ br : Addr, b7 = some br ∧
 (15 : Int) < (aq : Int) ∧
 ∃ (bl : Int), a2.cell? (br.add (Int.toNat 15 * 1)) = some (.int .u8 bl) ∧
 (bl > 48 →
 R (.tuple #[.slice none 0 0, .int .i64 0]) a2) ∧
 (bl ≤ 48 →
 0 ≤ (a4 : Int) ∧ (a4 : Int) < (aa : Int) ∧
 ∃ (b9 : Option Addr) (bm : Nat) (aj : Nat), a2.cell? (a5.add (Int.toNat a4 * 1)) = some (.slice b9 bm aj) ∧
 0 ≤ (a4 : Int) ∧ (a4 : Int) < (aa : Int) ∧
 ∃ (av : Option Addr) (b1 : Nat) (be : Nat), a2.cell? (a5.add (Int.toNat a4 * 1)) = some (.slice av b1 be) ∧
 ∃ bq : Addr, av = some bq ∧
 (15 : Int) < (b1 : Int) ∧
 ∃ (ae : Int), a2.cell? (bq.add (Int.toNat 15 * 1)) = some (.int .u8 ae) ∧
 (-9223372036854775808 : Int) ≤ ae ∧ ae < 9223372036854775808 ∧
 (-9223372036854775808 : Int) ≤ ((16 : Int) + ae) ∧ ((16 : Int) + ae) < 9223372036854775808 ∧
 (0 : Int) ≤ (((16 : Int) + ae) : Int) ∧ (((16 : Int) + ae) : Int) ≤ (aj : Int) ∧ (16 : Int) ≤ (((16 : Int) + ae) : Int) ∧ 
 ∀ (ax : World), Ext no a2 ax →
 ∃ (b5 : Option Addr) (b8 : Nat) (b3 : Nat) (az : World), (Builtin.append_ #[30, 30] 30 #[.slice ag ai af, .slice (cutA b9 aj 16 1) ((Int.toNat ((16 : Int) + ae)) - 16) (aj - 16)]).run Try.prog ax = .ok (.slice b5 b8 b3) az ∧
 (-9223372036854775808 : Int) ≤ (a4 + 1) ∧ (a4 + 1) < 9223372036854775808 ∧
 ∃ bo, bo < bs ∧ I0 bo [.slice b5 b8 b3, .int .i64 (a4 + 1)] az))) ∧
 (a8 ≤ a4 →
 Calls Try.prog 62 #[.int .u32 bd, .int .u32 a0, .int .u32 bf, .slice ag ai af] a2 fun ba an => ∃ (a6 : Option Addr) (a1 : Nat) (ac : Nat) (a3 : Int), ba = .returned (.tuple #[.slice a6 a1 ac, .int .i64 a3]) ∧
 (a3 ≠ 0 →
 R (.tuple #[.slice none 0 0, .int .i64 0]) an) ∧
 (a3 = 0 →
 ((a1 : Int) ≠ a8 →
 R (.tuple #[.slice none 0 0, .int .i64 0]) an) ∧
 ((a1 : Int) = a8 →
 ∃ (I2 : Nat → List Value → World → Prop) (c1 : Nat), I2 c1 [.int .i64 0] an ∧ ∀ (bp : Nat) (ad : World) (ab : Int), I2 bp [.int .i64 ab] ad →
 (ab < a8 →
 ∃ bt : Addr, a6 = some bt ∧
 0 ≤ (ab : Int) ∧ (ab : Int) < (a1 : Int) ∧
 ∃ (b4 : Option Addr) (ao : Nat) (aw : Nat), ad.cell? (bt.add (Int.toNat ab * 1)) = some (.slice b4 ao aw) ∧
 0 ≤ (ab : Int) ∧ (ab : Int) < (aa : Int) ∧
 ∃ (ay : Option Addr) (b0 : Nat) (ap : Nat), ad.cell? (a5.add (Int.toNat ab * 1)) = some (.slice ay b0 ap) ∧
 ∀ (b2 : World), Ext no ad b2 →
 Calls Try.prog 21 #[.slice b4 ao aw, .slice ay b0 ap] b2 fun bn ar => ∃ (a7 : Bool), bn = .returned (.bool a7) ∧
 (a7 = false →
 R (.tuple #[.slice none 0 0, .int .i64 0]) ar) ∧
 (a7 = true →
 (-9223372036854775808 : Int) ≤ (ab + 1) ∧ (ab + 1) < 9223372036854775808 ∧
 ∃ bv, bv < bp ∧ I2 bv [.int .i64 (ab + 1)] ar)) ∧
 (a8 ≤ ab →
 R (.tuple #[.slice ag ai af, .int .i64 a8]) ad)))))))))

theorem cachetteref10_stands.up (ce : Option Addr) (cd : Nat) (cc : Nat) (ag : Int) (ae : Int) {R : Value → World → Prop} {w : World} (h : cachetteref10_stands.N ce cd cc ag ae R w) : cachetteref10_stands.M ce cd cc ag ae R w := by
  unfold cachetteref10_stands.M
  unfold cachetteref10_stands.N at h
  refine bif_of (fun c4 => ?_) (fun c4 => ?_)
  · have h := h.1 (beq_t c4)
    exact h
  · have h := h.2 (beq_f c4)
    obtain ⟨a5, ab, h⟩ := h
    refine elim_some ab ?_
    obtain ⟨a0, h⟩ := h
    refine ⟨by decide, a0, ?_⟩
    obtain ⟨cz, cg, ci, d2, h⟩ := h
    refine ⟨cz, cg, ci, d2, ?_⟩
    refine bif_of (fun c8 => ?_) (fun c8 => ?_)
    · have h := h.1 (bne_t c8)
      exact h
    · have h := h.2 (bne_f c8)
      refine thenW_in fun d1 e9 => ?_
      have ai := (Ext.refl no w).x_drew e9
      refine elim_some ab ?_
      obtain ⟨a0, h⟩ := h
      refine ⟨by decide, a0, ?_⟩
      obtain ⟨ba, bo, c6, ay, h⟩ := h
      refine ⟨ba, bo, c6, (ai).cell ay id, ?_⟩
      obtain ⟨a1, h⟩ := h
      refine ⟨by decide, a1, by decide, by decide, ?_⟩
      refine elim_some ab ?_
      obtain ⟨a0, h⟩ := h
      refine ⟨by decide, a0, ?_⟩
      obtain ⟨c0, aq, cb, b0, h⟩ := h
      refine ⟨c0, aq, cb, (ai).cell b0 id, ?_⟩
      obtain ⟨d6, ap, h⟩ := h
      refine elim_some ap ?_
      obtain ⟨a0, h⟩ := h
      refine ⟨by decide, a0, ?_⟩
      obtain ⟨cj, ar, h⟩ := h
      refine ⟨cj, (ai).cell ar id, ?_⟩
      obtain ⟨a9, aa, h⟩ := h
      try rw [w64 a9 aa]
      have h := h d1 ai
      refine h.mono fun ck cm h => ?_
      obtain ⟨a4, he, h⟩ := h
      refine ⟨a4, he, ?_⟩
      obtain ⟨b3, ca, h⟩ := h
      refine ⟨b3, ca, ?_⟩
      refine bif_of (fun bv => ?_) (fun bv => ?_)
      · have h := h.1 (beq_t bv)
        exact h
      · have h := h.2 (beq_f bv)
        refine bif_of (fun bl => ?_) (fun bl => ?_)
        · have h := h.1 (beq_t bl)
          exact h
        · have h := h.2 (beq_f bl)
          refine bif_of (fun bj => ?_) (fun bj => ?_)
          · have h := h.1 (of_decide_eq_true bj)
            exact h
          · have h := h.2 (Int.not_lt.1 (of_decide_eq_false bj))
            obtain ⟨I0, cf, h0, h⟩ := h
            refine ⟨I0, cf, h0, fun cq ah al bs bw cv hI => ?_⟩
            have h := h cq ah al bs bw cv hI
            refine bif_of (fun c2 => ?_) (fun c2 => ?_)
            · have h := h.1 (of_decide_eq_true c2)
              refine elim_some ab ?_
              obtain ⟨a1, a0, h⟩ := h
              refine ⟨a1, a0, ?_⟩
              obtain ⟨au, am, bq, ao, h⟩ := h
              refine ⟨au, am, bq, ao, ?_⟩
              refine bif_of (fun av => ?_) (fun av => ?_)
              · have h := h.1 (bne_t av)
                exact h
              · have h := h.2 (bne_f av)
                refine elim_some ab ?_
                obtain ⟨a1, a0, h⟩ := h
                refine ⟨a1, a0, ?_⟩
                obtain ⟨b4, bk, ak, c1, h⟩ := h
                refine ⟨b4, bk, ak, c1, ?_⟩
                obtain ⟨d5, b6, h⟩ := h
                refine elim_some b6 ?_
                obtain ⟨a0, h⟩ := h
                refine ⟨by decide, a0, ?_⟩
                obtain ⟨d3, c5, h⟩ := h
                refine ⟨d3, c5, ?_⟩
                refine bif_of (fun b5 => ?_) (fun b5 => ?_)
                · have h := h.1 (of_decide_eq_true b5)
                  exact h
                · have h := h.2 (Int.not_lt.1 (of_decide_eq_false b5))
                  refine thenW_in fun az ch => ?_
                  have a8 := (Ext.refl no ah).x_drew ch
                  refine elim_some ab ?_
                  obtain ⟨a1, a0, h⟩ := h
                  refine ⟨a1, a0, ?_⟩
                  obtain ⟨b7, b2, b1, bm, h⟩ := h
                  refine ⟨b7, b2, b1, (a8).cell bm id, ?_⟩
                  refine elim_some ab ?_
                  obtain ⟨a1, a0, h⟩ := h
                  refine ⟨a1, a0, ?_⟩
                  obtain ⟨bn, c3, bx, bd, h⟩ := h
                  refine ⟨bn, c3, bx, (a8).cell bd id, ?_⟩
                  obtain ⟨d7, bz, h⟩ := h
                  refine elim_some bz ?_
                  obtain ⟨a0, h⟩ := h
                  refine ⟨by decide, a0, ?_⟩
                  obtain ⟨cy, bc, h⟩ := h
                  refine ⟨cy, (a8).cell bc id, ?_⟩
                  obtain ⟨a9, aa, h⟩ := h
                  try rw [w64 a9 aa]
                  obtain ⟨a9, aa, h⟩ := h
                  try rw [w64 a9 aa]
                  obtain ⟨ct, a1, cp, h⟩ := h
                  refine ⟨ct, a1, by decide, cp, ?_⟩
                  have h := h az a8
                  obtain ⟨c9, bi, c7, bh, hr, h⟩ := h
                  refine ⟨c9, bi, c7, bh, hr, ?_⟩
                  obtain ⟨a9, aa, h⟩ := h
                  try rw [w64 a9 aa]
                  obtain ⟨cs, hk, h⟩ := h
                  exact ⟨cs, hk, h⟩
            · have h := h.2 (Int.not_lt.1 (of_decide_eq_false c2))
              refine h.mono fun cn d0 h => ?_
              obtain ⟨a6, a3, a2, a7, he, h⟩ := h
              refine ⟨a6, a3, a2, a7, he, ?_⟩
              refine bif_of (fun bb => ?_) (fun bb => ?_)
              · have h := h.1 (bne_t bb)
                exact h
              · have h := h.2 (bne_f bb)
                refine bif_of (fun be => ?_) (fun be => ?_)
                · have h := h.1 (bne_t be)
                  exact h
                · have h := h.2 (bne_f be)
                  obtain ⟨I2, d4, h0, h⟩ := h
                  refine ⟨I2, d4, h0, fun co af cx hI => ?_⟩
                  have h := h co af cx hI
                  refine bif_of (fun an => ?_) (fun an => ?_)
                  · have h := h.1 (of_decide_eq_true an)
                    refine thenW_in fun bp cr => ?_
                    have ad := (Ext.refl no af).x_drew cr
                    obtain ⟨d8, b9, h⟩ := h
                    refine elim_some b9 ?_
                    obtain ⟨a1, a0, h⟩ := h
                    refine ⟨a1, a0, ?_⟩
                    obtain ⟨br, bu, ax, b8, h⟩ := h
                    refine ⟨br, bu, ax, (ad).cell b8 id, ?_⟩
                    refine elim_some ab ?_
                    obtain ⟨a1, a0, h⟩ := h
                    refine ⟨a1, a0, ?_⟩
                    obtain ⟨bg, bf, aj, aw, h⟩ := h
                    refine ⟨bg, bf, aj, (ad).cell aw id, ?_⟩
                    have h := h bp ad
                    refine h.mono fun cw cu h => ?_
                    obtain ⟨ac, he, h⟩ := h
                    refine ⟨ac, he, ?_⟩
                    refine bif_of (fun bt => ?_) (fun bt => ?_)
                    · have h := h.1 (not_t bt)
                      exact h
                    · have h := h.2 (not_f bt)
                      obtain ⟨a9, aa, h⟩ := h
                      try rw [w64 a9 aa]
                      obtain ⟨cl, hk, h⟩ := h
                      exact ⟨cl, hk, h⟩
                  · have h := h.2 (Int.not_lt.1 (of_decide_eq_false an))
                    exact h

theorem cachetteref10_stands.go (a4 : Option Addr) (a3 : Nat) (a2 : Nat) (a0 : Int) (a1 : Int) {R : Value → World → Prop} {w : World} (h : cachetteref10_stands.N a4 a3 a2 a0 a1 R w) : Calls Try.prog 55 #[.slice a4 a3 a2, .int .u32 a0, .int .u32 a1] w fun e w' => ∃ v, e = .returned v ∧ R v w' := cachetteref10_stands.ok a4 a3 a2 a0 a1 (cachetteref10_stands.up a4 a3 a2 a0 a1 h)
/-- cachetteref10.Scan -/
def cachetteref10_Scan.M (aj : Option Addr) (ai : Nat) (bt : Nat) (am : Int) (R : Value → World → Prop) (w : World) : Prop :=
 ∃ (I0 : Nat → List Value → World → Prop) (m5 : Nat), I0 m5 [.slice none 0 0, .int .i64 0] w ∧ ∀ (m6 : Nat) (bb : World) (aa : Option Addr) (a3 : Nat) (a8 : Nat) (a2 : Int), I0 m6 [.slice aa a3 a8, .int .i64 a2] bb →
 bif am != 0 then (
 (0 : Int) ≤ (a2 : Int) ∧ (a2 : Int) ≤ (ai : Int) ∧
 Calls Try.prog 55 #[.slice (if bt = Int.toNat a2 then aj else Option.map (fun z : Addr => z.add ((Int.toNat a2) * 1)) aj) (ai - (Int.toNat a2)) (bt - (Int.toNat a2)), .int .u32 am, .int .u32 (IntKind.u32.wrap (a3 : Int))] bb fun be ap => ∃ (ae : Option Addr) (af : Nat) (ah : Nat) (a6 : Int), be = .returned (.tuple #[.slice ae af ah, .int .i64 a6]) ∧
 bif a6 == 0 then (
 ∃ (I2 : Nat → List Value → World → Prop) (c6 : Nat), I2 c6 [.int .u32 0, .int .i64 0] ap ∧ ∀ (b2 : Nat) (a7 : World) (a1 : Int) (ab : Int), I2 b2 [.int .u32 a1, .int .i64 ab] a7 →
 bif decide (ab < (ai : Int)) then (
 aj.elim False fun cb =>
 0 ≤ (ab : Int) ∧ (ab : Int) < (ai : Int) ∧
 ∃ (bj : Option Addr) (b0 : Nat) (bk : Nat), a7.cell? (cb.add (Int.toNat ab * 1)) = some (.slice bj b0 bk) ∧
 bif (b0 : Int) == 64 then (
 aj.elim False fun c7 =>
 0 ≤ (ab : Int) ∧ (ab : Int) < (ai : Int) ∧
 ∃ (b4 : Option Addr) (ay : Nat) (bn : Nat), a7.cell? (c7.add (Int.toNat ab * 1)) = some (.slice b4 ay bn) ∧
 b4.elim False fun ch =>
 0 ≤ (0 : Int) ∧ (0 : Int) < (ay : Int) ∧
 ∃ (c5 : Int), a7.cell? (ch.add (Int.toNat 0 * 1)) = some (.int .u8 c5) ∧
 bif c5 == 197 then (
 aj.elim False fun cf =>
 0 ≤ (ab : Int) ∧ (ab : Int) < (ai : Int) ∧
 ∃ (aw : Option Addr) (bl : Nat) (an : Nat), a7.cell? (cf.add (Int.toNat ab * 1)) = some (.slice aw bl an) ∧
 (0 : Int) ≤ (5 : Int) ∧ (5 : Int) ≤ (an : Int) ∧ (0 : Int) ≤ (1 : Int) ∧ (1 : Int) ≤ (5 : Int) ∧
 Calls Try.prog 56 #[.slice (if an = Int.toNat 1 then aw else Option.map (fun z : Addr => z.add ((Int.toNat 1) * 1)) aw) ((Int.toNat 5) - (Int.toNat 1)) (an - (Int.toNat 1))] a7 fun bf av => ∃ (ag : Int), bf = .returned (.int .u32 ag) ∧
 bif ag == am then (
 aj.elim False fun cd =>
 0 ≤ (ab : Int) ∧ (ab : Int) < (ai : Int) ∧
 ∃ (au : Option Addr) (bc : Nat) (ao : Nat), av.cell? (cd.add (Int.toNat ab * 1)) = some (.slice au bc ao) ∧
 (0 : Int) ≤ (9 : Int) ∧ (9 : Int) ≤ (ao : Int) ∧ (0 : Int) ≤ (5 : Int) ∧ (5 : Int) ≤ (9 : Int) ∧
 Calls Try.prog 56 #[.slice (if ao = Int.toNat 5 then au else Option.map (fun z : Addr => z.add ((Int.toNat 5) * 1)) au) ((Int.toNat 9) - (Int.toNat 5)) (ao - (Int.toNat 5))] av fun bg bs => ∃ (a5 : Int), bg = .returned (.int .u32 a5) ∧
 ∃ c2, c2 < b2 ∧ I2 c2 [.int .u32 (if (a5 : Int) > a1 then a5 else a1), .int .i64 (IntKind.i64.wrap (ab + 1))] bs) else (
 ∃ c0, c0 < b2 ∧ I2 c0 [.int .u32 a1, .int .i64 (IntKind.i64.wrap (ab + 1))] av)) else (
 ∃ c4, c4 < b2 ∧ I2 c4 [.int .u32 a1, .int .i64 (IntKind.i64.wrap (ab + 1))] a7)) else (
 ∃ c3, c3 < b2 ∧ I2 c3 [.int .u32 a1, .int .i64 (IntKind.i64.wrap (ab + 1))] a7)) else (
 R (.tuple #[.slice aa a3 a8, .int .i64 a2, .int .u32 a1]) a7)) else (
 thenW (ap.alloc (.cells #[.slice ae af ah] 30)) fun bi =>
 ∃ (b7 : Option Addr) (b3 : Nat) (b6 : Nat) (b5 : World), (Builtin.append_ #[31, 31] 31 #[.slice aa a3 a8, .slice (some (blk ap.heap.size)) 1 1]).run Try.prog bi = .ok (.slice b7 b3 b6) b5 ∧
 ∃ bw, bw < m6 ∧ I0 bw [.slice b7 b3 b6, .int .i64 (IntKind.i64.wrap (a2 + a6))] b5)) else (
 ∃ (I2 : Nat → List Value → World → Prop) (cg : Nat), I2 cg [.int .u32 0, .int .i64 0] bb ∧ ∀ (b8 : Nat) (a9 : World) (a0 : Int) (ac : Int), I2 b8 [.int .u32 a0, .int .i64 ac] a9 →
 bif decide (ac < (ai : Int)) then (
 aj.elim False fun cc =>
 0 ≤ (ac : Int) ∧ (ac : Int) < (ai : Int) ∧
 ∃ (bm : Option Addr) (b9 : Nat) (bh : Nat), a9.cell? (cc.add (Int.toNat ac * 1)) = some (.slice bm b9 bh) ∧
 bif (b9 : Int) == 64 then (
 aj.elim False fun ca =>
 0 ≤ (ac : Int) ∧ (ac : Int) < (ai : Int) ∧
 ∃ (az : Option Addr) (b1 : Nat) (br : Nat), a9.cell? (ca.add (Int.toNat ac * 1)) = some (.slice az b1 br) ∧
 az.elim False fun c8 =>
 0 ≤ (0 : Int) ∧ (0 : Int) < (b1 : Int) ∧
 ∃ (c1 : Int), a9.cell? (c8.add (Int.toNat 0 * 1)) = some (.int .u8 c1) ∧
 bif c1 == 197 then (
 aj.elim False fun c9 =>
 0 ≤ (ac : Int) ∧ (ac : Int) < (ai : Int) ∧
 ∃ (aq : Option Addr) (bp : Nat) (al : Nat), a9.cell? (c9.add (Int.toNat ac * 1)) = some (.slice aq bp al) ∧
 (0 : Int) ≤ (5 : Int) ∧ (5 : Int) ≤ (al : Int) ∧ (0 : Int) ≤ (1 : Int) ∧ (1 : Int) ≤ (5 : Int) ∧
 Calls Try.prog 56 #[.slice (if al = Int.toNat 1 then aq else Option.map (fun z : Addr => z.add ((Int.toNat 1) * 1)) aq) ((Int.toNat 5) - (Int.toNat 1)) (al - (Int.toNat 1))] a9 fun bo ar => ∃ (ad : Int), bo = .returned (.int .u32 ad) ∧
 bif ad == am then (
 aj.elim False fun ce =>
 0 ≤ (ac : Int) ∧ (ac : Int) < (ai : Int) ∧
 ∃ (ax : Option Addr) (ba : Nat) (ak : Nat), ar.cell? (ce.add (Int.toNat ac * 1)) = some (.slice ax ba ak) ∧
 (0 : Int) ≤ (9 : Int) ∧ (9 : Int) ≤ (ak : Int) ∧ (0 : Int) ≤ (5 : Int) ∧ (5 : Int) ≤ (9 : Int) ∧
 Calls Try.prog 56 #[.slice (if ak = Int.toNat 5 then ax else Option.map (fun z : Addr => z.add ((Int.toNat 5) * 1)) ax) ((Int.toNat 9) - (Int.toNat 5)) (ak - (Int.toNat 5))] ar fun bq bd => ∃ (a4 : Int), bq = .returned (.int .u32 a4) ∧
 ∃ bv, bv < b8 ∧ I2 bv [.int .u32 (if (a4 : Int) > a0 then a4 else a0), .int .i64 (IntKind.i64.wrap (ac + 1))] bd) else (
 ∃ bu, bu < b8 ∧ I2 bu [.int .u32 a0, .int .i64 (IntKind.i64.wrap (ac + 1))] ar)) else (
 ∃ bz, bz < b8 ∧ I2 bz [.int .u32 a0, .int .i64 (IntKind.i64.wrap (ac + 1))] a9)) else (
 ∃ bx, bx < b8 ∧ I2 bx [.int .u32 a0, .int .i64 (IntKind.i64.wrap (ac + 1))] a9)) else (
 R (.tuple #[.slice aa a3 a8, .int .i64 a2, .int .u32 a0]) a9))

theorem cachetteref10_Scan.eq (l1a : Option Addr) (l1n : Nat) (l1c : Nat) (gen2 : Int) (R : Value → World → Prop) (w : World) : mfunc Try.prog [(0, [0, 1], [(7, (.one .slice)), (8, (.one (.int .i64)))]), (2, [0, 1, 7, 8], [(11, (.one (.int .u32))), (12, (.one (.int .i64)))])] 40 [.slice l1a l1n l1c, .int .u32 gen2] R w = cachetteref10_Scan.M l1a l1n l1c gen2 R w := by kernel_rfl
theorem cachetteref10_Scan.ok (a3 : Option Addr) (a2 : Nat) (a1 : Nat) (a0 : Int) {R : Value → World → Prop} {w : World} (h : cachetteref10_Scan.M a3 a2 a1 a0 R w) : Calls Try.prog 40 #[.slice a3 a2 a1, .int .u32 a0] w fun e w' => ∃ v, e = .returned v ∧ R v w' :=
  mfunc_ok follows (H := [(0, [0, 1], [(7, (.one .slice)), (8, (.one (.int .i64)))]), (2, [0, 1, 7, 8], [(11, (.one (.int .u32))), (12, (.one (.int .i64)))])]) (args := [.slice a3 a2 a1, .int .u32 a0]) (by rw [cachetteref10_Scan.eq]; exact h)

def cachetteref10_Scan.N (bp : Option Addr) (aj : Nat) (bz : Nat) (ai : Int) (R : Value → World → Prop) (w : World) : Prop :=
 ∃ (I0 : Nat → List Value → World → Prop) (m5 : Nat), I0 m5 [.slice none 0 0, .int .i64 0] w ∧ ∀ (m6 : Nat) (bd : World) (ad : Option Addr) (a8 : Nat) (ab : Nat) (a3 : Int), I0 m6 [.slice ad a8 ab, .int .i64 a3] bd →
 (ai ≠ 0 →
 (0 : Int) ≤ (a3 : Int) ∧ (a3 : Int) ≤ (aj : Int) ∧ 
 Calls Try.prog 55 #[.slice (cutA bp bz (Int.toNat a3) 1) (aj - (Int.toNat a3)) (bz - (Int.toNat a3)), .int .u32 ai, .int .u32 (IntKind.u32.wrap (a8 : Int))] bd fun bg av => ∃ (ag : Option Addr) (af : Nat) (ah : Nat) (a0 : Int), bg = .returned (.tuple #[.slice ag af ah, .int .i64 a0]) ∧
 (a0 = 0 →
 ∃ (I2 : Nat → List Value → World → Prop) (cb : Nat), I2 cb [.int .u32 0, .int .i64 0] av ∧ ∀ (az : Nat) (ac : World) (a1 : Int) (a5 : Int), I2 az [.int .u32 a1, .int .i64 a5] ac →
 (a5 < (aj : Int) →
 ∃ ay : Addr, bp = some ay ∧
 0 ≤ (a5 : Int) ∧ (a5 : Int) < (aj : Int) ∧
 ∃ (bi : Option Addr) (au : Nat) (be : Nat), ac.cell? (ay.add (Int.toNat a5 * 1)) = some (.slice bi au be) ∧
 ((au : Int) = 64 →
 0 ≤ (a5 : Int) ∧ (a5 : Int) < (aj : Int) ∧
 ∃ (b4 : Option Addr) (b5 : Nat) (bo : Nat), ac.cell? (ay.add (Int.toNat a5 * 1)) = some (.slice b4 b5 bo) ∧
 ∃ c1 : Addr, b4 = some c1 ∧
 (0 : Int) < (b5 : Int) ∧
 ∃ (bw : Int), ac.cell? (c1.add (Int.toNat 0 * 1)) = some (.int .u8 bw) ∧
 (bw = 197 →
 0 ≤ (a5 : Int) ∧ (a5 : Int) < (aj : Int) ∧
 ∃ (ax : Option Addr) (bs : Nat) (ao : Nat), ac.cell? (ay.add (Int.toNat a5 * 1)) = some (.slice ax bs ao) ∧
 (5 : Int) ≤ (ao : Int) ∧ 
 Calls Try.prog 56 #[.slice (cutA ax ao 1 1) (5 - 1) (ao - 1)] ac fun bu aq => ∃ (a6 : Int), bu = .returned (.int .u32 a6) ∧
 (a6 = ai →
 0 ≤ (a5 : Int) ∧ (a5 : Int) < (aj : Int) ∧
 ∃ (ba : Option Addr) (bt : Nat) (an : Nat), aq.cell? (ay.add (Int.toNat a5 * 1)) = some (.slice ba bt an) ∧
 (9 : Int) ≤ (an : Int) ∧ 
 Calls Try.prog 56 #[.slice (cutA ba an 5 1) (9 - 5) (an - 5)] aq fun bk bf => ∃ (a7 : Int), bk = .returned (.int .u32 a7) ∧
 (-9223372036854775808 : Int) ≤ (a5 + 1) ∧ (a5 + 1) < 9223372036854775808 ∧
 ∃ c3, c3 < az ∧ I2 c3 [.int .u32 (if (a7 : Int) > a1 then a7 else a1), .int .i64 (a5 + 1)] bf) ∧
 (a6 ≠ ai →
 (-9223372036854775808 : Int) ≤ (a5 + 1) ∧ (a5 + 1) < 9223372036854775808 ∧
 ∃ c6, c6 < az ∧ I2 c6 [.int .u32 a1, .int .i64 (a5 + 1)] aq)) ∧
 (bw ≠ 197 →
 (-9223372036854775808 : Int) ≤ (a5 + 1) ∧ (a5 + 1) < 9223372036854775808 ∧
 ∃ c8, c8 < az ∧ I2 c8 [.int .u32 a1, .int .i64 (a5 + 1)] ac)) ∧
 ((au : Int) ≠ 64 →
 (-9223372036854775808 : Int) ≤ (a5 + 1) ∧ (a5 + 1) < 9223372036854775808 ∧
 ∃ c9, c9 < az ∧ I2 c9 [.int .u32 a1, .int .i64 (a5 + 1)] ac)) ∧
 ((aj : Int) ≤ a5 →
 R (.tuple #[.slice ad a8 ab, .int .i64 a3, .int .u32 a1]) ac)) ∧
 (a0 ≠ 0 →
 ∀ (am : World) (bc : Nat), Ext no av am → Blk am bc 30 [.slice ag af ah] → av.heap.size ≤ bc → bc < am.heap.size →
 ∃ (bb : Option Addr) (b1 : Nat) (b6 : Nat) (b3 : World), (Builtin.append_ #[31, 31] 31 #[.slice ad a8 ab, .slice (some (blk bc)) 1 1]).run Try.prog am = .ok (.slice bb b1 b6) b3 ∧
 (-9223372036854775808 : Int) ≤ (a3 + a0) ∧ (a3 + a0) < 9223372036854775808 ∧
 ∃ c2, c2 < m6 ∧ I0 c2 [.slice bb b1 b6, .int .i64 (a3 + a0)] b3)) ∧
 (ai = 0 →
 ∃ (I2 : Nat → List Value → World → Prop) (cc : Nat), I2 cc [.int .u32 0, .int .i64 0] bd ∧ ∀ (b2 : Nat) (ae : World) (a2 : Int) (a4 : Int), I2 b2 [.int .u32 a2, .int .i64 a4] ae →
 (a4 < (aj : Int) →
 ∃ b8 : Addr, bp = some b8 ∧
 0 ≤ (a4 : Int) ∧ (a4 : Int) < (aj : Int) ∧
 ∃ (bx : Option Addr) (ap : Nat) (bj : Nat), ae.cell? (b8.add (Int.toNat a4 * 1)) = some (.slice bx ap bj) ∧
 ((ap : Int) = 64 →
 0 ≤ (a4 : Int) ∧ (a4 : Int) < (aj : Int) ∧
 ∃ (b7 : Option Addr) (aw : Nat) (bn : Nat), ae.cell? (b8.add (Int.toNat a4 * 1)) = some (.slice b7 aw bn) ∧
 ∃ c7 : Addr, b7 = some c7 ∧
 (0 : Int) < (aw : Int) ∧
 ∃ (bv : Int), ae.cell? (c7.add (Int.toNat 0 * 1)) = some (.int .u8 bv) ∧
 (bv = 197 →
 0 ≤ (a4 : Int) ∧ (a4 : Int) < (aj : Int) ∧
 ∃ (b0 : Option Addr) (bm : Nat) (ak : Nat), ae.cell? (b8.add (Int.toNat a4 * 1)) = some (.slice b0 bm ak) ∧
 (5 : Int) ≤ (ak : Int) ∧ 
 Calls Try.prog 56 #[.slice (cutA b0 ak 1 1) (5 - 1) (ak - 1)] ae fun br ar => ∃ (aa : Int), br = .returned (.int .u32 aa) ∧
 (aa = ai →
 0 ≤ (a4 : Int) ∧ (a4 : Int) < (aj : Int) ∧
 ∃ (b9 : Option Addr) (bl : Nat) (al : Nat), ar.cell? (b8.add (Int.toNat a4 * 1)) = some (.slice b9 bl al) ∧
 (9 : Int) ≤ (al : Int) ∧ 
 Calls Try.prog 56 #[.slice (cutA b9 al 5 1) (9 - 5) (al - 5)] ar fun bq bh => ∃ (a9 : Int), bq = .returned (.int .u32 a9) ∧
 (-9223372036854775808 : Int) ≤ (a4 + 1) ∧ (a4 + 1) < 9223372036854775808 ∧
 ∃ c4, c4 < b2 ∧ I2 c4 [.int .u32 (if (a9 : Int) > a2 then a9 else a2), .int .i64 (a4 + 1)] bh) ∧
 (aa ≠ ai →
 (-9223372036854775808 : Int) ≤ (a4 + 1) ∧ (a4 + 1) < 9223372036854775808 ∧
 ∃ c0, c0 < b2 ∧ I2 c0 [.int .u32 a2, .int .i64 (a4 + 1)] ar)) ∧
 (bv ≠ 197 →
 (-9223372036854775808 : Int) ≤ (a4 + 1) ∧ (a4 + 1) < 9223372036854775808 ∧
 ∃ ca, ca < b2 ∧ I2 ca [.int .u32 a2, .int .i64 (a4 + 1)] ae)) ∧
 ((ap : Int) ≠ 64 →
 (-9223372036854775808 : Int) ≤ (a4 + 1) ∧ (a4 + 1) < 9223372036854775808 ∧
 ∃ c5, c5 < b2 ∧ I2 c5 [.int .u32 a2, .int .i64 (a4 + 1)] ae)) ∧
 ((aj : Int) ≤ a4 →
 R (.tuple #[.slice ad a8 ab, .int .i64 a3, .int .u32 a2]) ae))

theorem cachetteref10_Scan.up (c9 : Option Addr) (c7 : Nat) (c6 : Nat) (ak : Int) {R : Value → World → Prop} {w : World} (h : cachetteref10_Scan.N c9 c7 c6 ak R w) : cachetteref10_Scan.M c9 c7 c6 ak R w := by
  unfold cachetteref10_Scan.M
  unfold cachetteref10_Scan.N at h
  obtain ⟨I0, m5, h0, h⟩ := h
  refine ⟨I0, m5, h0, fun m6 ca ai ag ah al hI => ?_⟩
  have h := h m6 ca ai ag ah al hI
  refine bif_of (fun c8 => ?_) (fun c8 => ?_)
  · have h := h.1 (bne_t c8)
    obtain ⟨cq, a0, h⟩ := h
    refine ⟨cq, a0, ?_⟩
    refine h.mono fun cd aj h => ?_
    obtain ⟨a9, a5, aa, a6, he, h⟩ := h
    refine ⟨a9, a5, aa, a6, he, ?_⟩
    refine bif_of (fun b3 => ?_) (fun b3 => ?_)
    · have h := h.1 (beq_t b3)
      obtain ⟨I2, ct, h0, h⟩ := h
      refine ⟨I2, ct, h0, fun cf bj ac d0 hI => ?_⟩
      have h := h cf bj ac d0 hI
      refine bif_of (fun be => ?_) (fun be => ?_)
      · have h := h.1 (of_decide_eq_true be)
        obtain ⟨d2, af, h⟩ := h
        refine elim_some af ?_
        obtain ⟨a0, a1, h⟩ := h
        refine ⟨a0, a1, ?_⟩
        obtain ⟨b1, bo, au, ar, h⟩ := h
        refine ⟨b1, bo, au, ar, ?_⟩
        refine bif_of (fun bi => ?_) (fun bi => ?_)
        · have h := h.1 (beq_t bi)
          refine elim_some af ?_
          obtain ⟨a0, a1, h⟩ := h
          refine ⟨a0, a1, ?_⟩
          obtain ⟨bk, bl, bd, ax, h⟩ := h
          refine ⟨bk, bl, bd, ax, ?_⟩
          obtain ⟨d3, bt, h⟩ := h
          refine elim_some bt ?_
          obtain ⟨a1, h⟩ := h
          refine ⟨by decide, a1, ?_⟩
          obtain ⟨d1, ap, h⟩ := h
          refine ⟨d1, ap, ?_⟩
          refine bif_of (fun bw => ?_) (fun bw => ?_)
          · have h := h.1 (beq_t bw)
            refine elim_some af ?_
            obtain ⟨a0, a1, h⟩ := h
            refine ⟨a0, a1, ?_⟩
            obtain ⟨az, bp, c1, b0, h⟩ := h
            refine ⟨az, bp, c1, b0, ?_⟩
            obtain ⟨a0, h⟩ := h
            refine ⟨by decide, a0, by decide, by decide, ?_⟩
            refine h.mono fun cy ci h => ?_
            obtain ⟨a4, he, h⟩ := h
            refine ⟨a4, he, ?_⟩
            refine bif_of (fun b6 => ?_) (fun b6 => ?_)
            · have h := h.1 (beq_t b6)
              refine elim_some af ?_
              obtain ⟨a0, a1, h⟩ := h
              refine ⟨a0, a1, ?_⟩
              obtain ⟨bu, bs, bg, am, h⟩ := h
              refine ⟨bu, bs, bg, am, ?_⟩
              obtain ⟨a0, h⟩ := h
              refine ⟨by decide, a0, by decide, by decide, ?_⟩
              refine h.mono fun cg cc h => ?_
              obtain ⟨a7, he, h⟩ := h
              refine ⟨a7, he, ?_⟩
              obtain ⟨a2, a3, h⟩ := h
              try rw [w64 a2 a3]
              obtain ⟨cj, hk, h⟩ := h
              exact ⟨cj, hk, h⟩
            · have h := h.2 (beq_f b6)
              obtain ⟨a2, a3, h⟩ := h
              try rw [w64 a2 a3]
              obtain ⟨cn, hk, h⟩ := h
              exact ⟨cn, hk, h⟩
          · have h := h.2 (beq_f bw)
            obtain ⟨a2, a3, h⟩ := h
            try rw [w64 a2 a3]
            obtain ⟨cs, hk, h⟩ := h
            exact ⟨cs, hk, h⟩
        · have h := h.2 (beq_f bi)
          obtain ⟨a2, a3, h⟩ := h
          try rw [w64 a2 a3]
          obtain ⟨cu, hk, h⟩ := h
          exact ⟨cu, hk, h⟩
      · have h := h.2 (Int.not_lt.1 (of_decide_eq_false be))
        exact h
    · have h := h.2 (beq_f b3)
      refine thenW_in fun bf c4 => ?_
      have h := h bf aj.heap.size ((Ext.refl no aj).x_alloc c4) (Blk.of_new c4) ((Ext.refl no aj)).size (size_lt_alloc c4)
      obtain ⟨bv, bb, bm, bh, hr, h⟩ := h
      refine ⟨bv, bb, bm, bh, hr, ?_⟩
      obtain ⟨a2, a3, h⟩ := h
      try rw [w64 a2 a3]
      obtain ⟨ch, hk, h⟩ := h
      exact ⟨ch, hk, h⟩
  · have h := h.2 (bne_f c8)
    obtain ⟨I2, cv, h0, h⟩ := h
    refine ⟨I2, cv, h0, fun ck bz ad cp hI => ?_⟩
    have h := h ck bz ad cp hI
    refine bif_of (fun b4 => ?_) (fun b4 => ?_)
    · have h := h.1 (of_decide_eq_true b4)
      obtain ⟨d5, ae, h⟩ := h
      refine elim_some ae ?_
      obtain ⟨a0, a1, h⟩ := h
      refine ⟨a0, a1, ?_⟩
      obtain ⟨c2, ao, b2, b7, h⟩ := h
      refine ⟨c2, ao, b2, b7, ?_⟩
      refine bif_of (fun c3 => ?_) (fun c3 => ?_)
      · have h := h.1 (beq_t c3)
        refine elim_some ae ?_
        obtain ⟨a0, a1, h⟩ := h
        refine ⟨a0, a1, ?_⟩
        obtain ⟨bn, av, b9, aw, h⟩ := h
        refine ⟨bn, av, b9, aw, ?_⟩
        obtain ⟨d4, bx, h⟩ := h
        refine elim_some bx ?_
        obtain ⟨a1, h⟩ := h
        refine ⟨by decide, a1, ?_⟩
        obtain ⟨cz, c5, h⟩ := h
        refine ⟨cz, c5, ?_⟩
        refine bif_of (fun c0 => ?_) (fun c0 => ?_)
        · have h := h.1 (beq_t c0)
          refine elim_some ae ?_
          obtain ⟨a0, a1, h⟩ := h
          refine ⟨a0, a1, ?_⟩
          obtain ⟨ba, b8, an, ay, h⟩ := h
          refine ⟨ba, b8, an, ay, ?_⟩
          obtain ⟨a0, h⟩ := h
          refine ⟨by decide, a0, by decide, by decide, ?_⟩
          refine h.mono fun cw cr h => ?_
          obtain ⟨ab, he, h⟩ := h
          refine ⟨ab, he, ?_⟩
          refine bif_of (fun bq => ?_) (fun bq => ?_)
          · have h := h.1 (beq_t bq)
            refine elim_some ae ?_
            obtain ⟨a0, a1, h⟩ := h
            refine ⟨a0, a1, ?_⟩
            obtain ⟨br, b5, bc, aq, h⟩ := h
            refine ⟨br, b5, bc, aq, ?_⟩
            obtain ⟨a0, h⟩ := h
            refine ⟨by decide, a0, by decide, by decide, ?_⟩
            refine h.mono fun co ce h => ?_
            obtain ⟨a8, he, h⟩ := h
            refine ⟨a8, he, ?_⟩
            obtain ⟨a2, a3, h⟩ := h
            try rw [w64 a2 a3]
            obtain ⟨cl, hk, h⟩ := h
            exact ⟨cl, hk, h⟩
          · have h := h.2 (beq_f bq)
            obtain ⟨a2, a3, h⟩ := h
            try rw [w64 a2 a3]
            obtain ⟨cb, hk, h⟩ := h
            exact ⟨cb, hk, h⟩
        · have h := h.2 (beq_f c0)
          obtain ⟨a2, a3, h⟩ := h
          try rw [w64 a2 a3]
          obtain ⟨cx, hk, h⟩ := h
          exact ⟨cx, hk, h⟩
      · have h := h.2 (beq_f c3)
        obtain ⟨a2, a3, h⟩ := h
        try rw [w64 a2 a3]
        obtain ⟨cm, hk, h⟩ := h
        exact ⟨cm, hk, h⟩
    · have h := h.2 (Int.not_lt.1 (of_decide_eq_false b4))
      exact h

theorem cachetteref10_Scan.go (a3 : Option Addr) (a2 : Nat) (a1 : Nat) (a0 : Int) {R : Value → World → Prop} {w : World} (h : cachetteref10_Scan.N a3 a2 a1 a0 R w) : Calls Try.prog 40 #[.slice a3 a2 a1, .int .u32 a0] w fun e w' => ∃ v, e = .returned v ∧ R v w' := cachetteref10_Scan.ok a3 a2 a1 a0 (cachetteref10_Scan.up a3 a2 a1 a0 h)
end Go.Proofs.Ytidijnfkcpbkiaa

/- Journal: which record stands, plainly; the small functions of a scan. -/
set_option linter.unusedVariables false
set_option linter.unusedSimpArgs false
set_option maxRecDepth 20000
set_option maxHeartbeats 2000000
namespace Go.Proofs.Ytidijnfkcpbkiaa
open Go Go.Mx Go.Proofs
open W (OwnB GivesW)
def byteN (s : List UInt8) (i : Nat) : Nat := ((s[i]?).getD 0).toNat
def numB (s : List UInt8) (i : Nat) : Nat := byteN s i * 16777216 + byteN s (i + 1) * 65536 + byteN s (i + 2) * 256 + byteN s (i + 3)
def bodyS (s : List UInt8) : List UInt8 := (s.drop 16).take (byteN s 15)
def cntK (L : List (List UInt8)) : Nat := byteN (L.headD []) 14
def bodyK (L : List (List UInt8)) : List UInt8 := (L.take (cntK L)).flatMap bodyS
/-- a record stands where these sectors begin. -/
def OKS (L : List (List UInt8)) (gen seq : Nat) : Prop :=
  L ≠ [] ∧ (L.headD []).length = 64 ∧ cntK L ≤ L.length ∧ (∀ s ∈ L.take (cntK L), s.length = 64 ∧ byteN s 15 ≤ 48) ∧ frameK gen (numB (L.headD []) 5) seq (bodyK L) = (L.take (cntK L), 0)
instance (L : List (List UInt8)) (gen seq : Nat) : Decidable (OKS L gen seq) := by unfold OKS; infer_instance
def standK (L : List (List UInt8)) (gen seq : Nat) : List UInt8 × Nat := if OKS L gen seq then (bodyK L, cntK L) else ([], 0)
theorem byteN_lt (s : List UInt8) (i : Nat) : byteN s i < 256 := UInt8.toNat_lt _
theorem numB_lt (s : List UInt8) (i : Nat) : numB s i < 4294967296 := by
  have h0 := byteN_lt s i
  have h1 := byteN_lt s (i + 1)
  have h2 := byteN_lt s (i + 2)
  have h3 := byteN_lt s (i + 3)
  unfold numB; omega
theorem cntK_lt (L : List (List UInt8)) : cntK L < 256 := byteN_lt _ _
theorem frameK_zero {gen round seq : Nat} {b : List UInt8} {f : List (List UInt8)} (h : frameK gen round seq b = (f, 0)) : b.length ≤ 4000 ∧ gen ≠ 0 ∧ round ≠ 0 ∧ f = frameL gen round seq b ∧ f ≠ [] := by
  unfold frameK at h
  split at h
  · cases h
  · rename_i h4
    split at h
    · cases h
    · rename_i hz
      injection h with h1 h2
      refine ⟨by omega, fun e => hz (.inl e), fun e => hz (.inr e), h1.symm, ?_⟩
      rw [← h1]
      intro e
      have := congrArg List.length e
      unfold frameL at this
      rw [List.length_map, List.length_range] at this
      have h0 : partsN b.length = 0 := this
      unfold partsN at h0
      rw [if_neg h4] at h0
      split at h0
      · cases h0
      · omega
theorem sec_mark {gen round seq : Nat} {b : List UInt8} {s : List UInt8} (h : s ∈ frameL gen round seq b) : byteN s 0 = 197 ∧ s.length = 64 := by
  unfold frameL at h
  obtain ⟨i, hi, rfl⟩ := List.mem_map.1 h
  exact ⟨rfl, secL_len _ _ _ _ _ (partL_le _ _)⟩
section
variable {L : List (List UInt8)} {gen seq : Nat}
theorem OKS.cnt (h : OKS L gen seq) : cntK L ≠ 0 := fun e => by
  obtain ⟨_, _, _, _, hf⟩ := h
  have := (frameK_zero hf).2.2.2.2
  rw [e] at this
  exact this rfl
theorem OKS.round (h : OKS L gen seq) : numB (L.headD []) 5 ≠ 0 := (frameK_zero h.2.2.2.2).2.2.1
theorem OKS.genz (h : OKS L gen seq) : gen ≠ 0 := (frameK_zero h.2.2.2.2).2.1
theorem OKS.mark (h : OKS L gen seq) : ∀ s ∈ L.take (cntK L), byteN s 0 = 197 ∧ s.length = 64 := fun s hs => by
  have hf := h.2.2.2.2
  have := (frameK_zero hf).2.2.2.1
  rw [this] at hs
  exact sec_mark hs
theorem OKS.head (h : OKS L gen seq) : L.headD [] ∈ L.take (cntK L) := by
  have hc := h.cnt
  obtain ⟨h0, _⟩ := h
  cases L with
  | nil => exact absurd rfl h0
  | cons x r =>
    obtain ⟨k, hk⟩ := Nat.exists_eq_succ_of_ne_zero hc
    rw [hk]
    exact List.mem_cons_self
theorem standK_no (h : ¬ OKS L gen seq) : standK L gen seq = ([], 0) := if_neg h
theorem standK_yes (h : OKS L gen seq) : standK L gen seq = (bodyK L, cntK L) := if_pos h
theorem standK_le (L : List (List UInt8)) (gen seq : Nat) : (standK L gen seq).2 ≤ L.length := by
  by_cases h : OKS L gen seq
  · rw [standK_yes h]; exact h.2.2.1
  · rw [standK_no h]; exact Nat.zero_le _
theorem bodyS_le (s : List UInt8) : (bodyS s).length ≤ 255 := by
  unfold bodyS
  rw [List.length_take]
  have := byteN_lt s 15
  omega
theorem flat_le : ∀ L : List (List UInt8), (L.flatMap bodyS).length ≤ 255 * L.length
  | [] => Nat.le_refl _
  | x :: r => by
    have := bodyS_le x
    have := flat_le r
    rw [List.flatMap_cons, List.length_append, List.length_cons]
    omega
end
/-- a list of bytes' rows, where they lie. -/
structure BsAt (w : World) (a : Option Addr) (c : Nat) (l : List BS) : Prop where
  row : RowAt w a (l.map BS.v)
  oks : ∀ x ∈ l, RowAt w x.a (bytesV x.bs) ∧ x.bs.length ≤ x.c
  le : l.length ≤ c
section
variable {w w' w1 : World} {o o' o1 : Own} {q g n N : Nat} {K : Nat → Prop} {b s : List UInt8} {a : Option Addr} {c : Nat} {l : List BS}
theorem BsAt.no (h : BsAt w a c l) (X : Ext no w w') : BsAt w' a c l := ⟨h.row.no X, fun x hx => ⟨(h.oks x hx).1.no X, (h.oks x hx).2⟩, h.le⟩
theorem BsRow.at (h : BsRow w o a c l) : BsAt w a c l := ⟨h.row.1, fun x hx => ⟨(h.oks x hx).1.1, (h.oks x hx).2⟩, h.le⟩
theorem BsAt.cut (h : BsAt w a c l) (k : Nat) : BsAt w (cutA a c k 1) (c - k) (l.drop k) :=
  ⟨by have := h.row.cut k c (by rw [List.length_map]; exact h.le); rwa [← List.map_drop] at this, fun x hx => h.oks x (List.mem_of_mem_drop hx), by rw [List.length_drop]; have := h.le; omega⟩
theorem BsAt.take (h : BsAt w a c l) (k : Nat) : BsAt w a c (l.take k) :=
  ⟨by have := h.row.take k; rwa [← List.map_take] at this, fun x hx => h.oks x (List.mem_of_mem_take hx), by rw [List.length_take]; have := h.le; omega⟩
theorem BsAt.cell (h : BsAt w a c l) {i : Nat} {x : BS} (hi : l[i]? = some x) : ∃ ad, a = some ad ∧ w.cell? (ad.add (i * 1)) = some (.slice x.a x.bs.length x.c) := by
  obtain ⟨ad, ha, hc⟩ := h.row i x.v (by rw [List.getElem?_map, hi]; rfl)
  exact ⟨ad, ha, by rw [Nat.mul_one]; exact hc⟩
theorem byte_cell (h : RowAt w a (bytesV s)) {i : Nat} (hi : i < s.length) : ∃ ad, a = some ad ∧ w.cell? (ad.add (i * 1)) = some (.int .u8 (byteN s i)) := by
  obtain ⟨ad, ha, hc⟩ := h i (u8V s[i]) (by unfold bytesV; rw [List.getElem?_map, List.getElem?_eq_getElem hi]; rfl)
  refine ⟨ad, ha, ?_⟩
  rw [Nat.mul_one, hc]
  unfold byteN
  rw [List.getElem?_eq_getElem hi]; rfl
theorem sIs_spec (h : RowAt w a (bytesV s)) :
    Calls Try.prog 58 #[.slice a s.length c] w (Ret (.bool (decide (s.length = 64 ∧ byteN s 0 = 197))) fun w' => w' = w) := by
  refine journal_sector_is.run _ _ _ ?_
  unfold journal_sector_is.N
  refine ⟨fun h64 => ?_, fun h64 => ⟨by rw [decide_eq_false (by omega)], rfl⟩⟩
  obtain ⟨ad, rfl, hc⟩ := byte_cell h (i := 0) (by omega)
  refine ⟨ad, rfl, by omega, _, hc, ?_, rfl⟩
  congr 1
  rw [Bool.eq_iff_iff]
  simp
  omega
theorem or_step (n x : Nat) (hn : n < 16777216) (hx : x < 256) : IntKind.u32.wrap ((BitVec.ofInt (IntKind.bits .u32) (IntKind.u32.wrap ((n : Int) * 256)) ||| BitVec.ofInt (IntKind.bits .u32) (IntKind.u32.wrap (x : Int))).toNat) = ((n * 256 + x : Nat) : Int) := by
  rw [show IntKind.u32.wrap ((n : Int) * 256) = ((n * 256 : Nat) : Int) by rw [IntKind.wrap_u32]; omega, show IntKind.u32.wrap (x : Int) = ((x : Nat) : Int) by rw [IntKind.wrap_u32]; omega]
  have h1 : (BitVec.ofInt (IntKind.bits .u32) ((n * 256 : Nat) : Int)).toNat = n * 256 := by
    show (BitVec.ofInt 32 ((n * 256 : Nat) : Int)).toNat = _
    rw [BitVec.ofInt_natCast, BitVec.toNat_ofNat]; omega
  have h2 : (BitVec.ofInt (IntKind.bits .u32) ((x : Nat) : Int)).toNat = x := by
    show (BitVec.ofInt 32 ((x : Nat) : Int)).toNat = _
    rw [BitVec.ofInt_natCast, BitVec.toNat_ofNat]; omega
  rw [BitVec.toNat_or, h1, h2]
  have h3 : n * 256 ||| x = n * 256 + x := by
    have := Nat.two_pow_add_eq_or_of_lt (i := 8) (b := x) (by omega) n
    rw [show (2 : Nat) ^ 8 * n = n * 256 by omega] at this
    exact this.symm
  rw [h3, IntKind.wrap_u32]; omega
/-- a number's bytes so far. -/
def numP (s : List UInt8) (i : Nat) : Nat → Nat
  | 0 => 0
  | k + 1 => numP s i k * 256 + byteN s (i + k)
theorem numP_four (s : List UInt8) (i : Nat) : numP s i 4 = numB s i := by
  simp only [numP, numB, Nat.add_zero]
  omega
theorem numP_lt (s : List UInt8) (i : Nat) : ∀ k, k ≤ 3 → numP s i k < 16777216 := fun k hk => by
  have h0 := byteN_lt s (i + 0)
  have h1 := byteN_lt s (i + 1)
  have h2 := byteN_lt s (i + 2)
  match k, hk with
  | 0, _ => simp only [numP]; omega
  | 1, _ => simp only [numP]; omega
  | 2, _ => simp only [numP]; omega
  | 3, _ => simp only [numP]; omega
theorem at_spec (h : RowAt w a (bytesV s)) (hc : s.length ≤ c) {i : Nat} (hi : i + 4 ≤ s.length) (hs : s.length < 1000000) :
    Calls Try.prog 59 #[.slice a s.length c, .int .i64 i] w (Ret (.int .u32 (numB s i)) fun w' => w' = w) := by
  refine journal_sector_at.run _ _ _ _ ?_
  unfold journal_sector_at.N
  have hcut : (Int.toNat ((i : Int) + 4)) - (Int.toNat (i : Int)) = 4 := by omega
  refine ⟨by omega, by omega, by omega, by omega, by omega, by omega, ?_⟩
  rw [hcut, Int.toNat_natCast]
  refine ⟨fun m vs w1 => ∃ t : Nat, vs = [.int .u32 (numP s i t), .int .i64 t] ∧ m + t = 4 ∧ w1 = w, 4, ⟨0, rfl, rfl, rfl⟩, ?_⟩
  rintro m w7 n t ⟨t', hi', hm, rfl⟩
  simp only [List.cons.injEq, Value.int.injEq, true_and, and_true] at hi'
  obtain ⟨rfl, rfl⟩ := hi'
  refine ⟨fun ht => ?_, fun ht => ?_⟩
  · have ht4 : t' < 4 := by omega
    have hd : RowAt w7 (cutA a c i 1) (bytesV (s.drop i)) := by
      have := h.cut i c (by rw [bytesV_length]; exact hc)
      unfold bytesV at this ⊢
      rwa [← List.map_drop] at this
    obtain ⟨ad, ha, hcell⟩ := byte_cell hd (i := t') (by rw [List.length_drop]; omega)
    have hb : byteN (s.drop i) t' = byteN s (i + t') := by unfold byteN; rw [List.getElem?_drop]
    rw [hb] at hcell
    refine ⟨ad, ha, by omega, by omega, _, by rw [Int.toNat_natCast]; exact hcell, by omega, by omega, m - 1, by omega, t' + 1, ?_, by omega, rfl⟩
    rw [or_step _ _ (numP_lt s i t' (by omega)) (byteN_lt _ _)]; rfl
  · have : t' = 4 := by omega
    subst this
    exact ⟨by rw [numP_four], rfl⟩
theorem num_spec (h : RowAt w a (bytesV s)) (hs : s.length = 4) :
    Calls Try.prog 56 #[.slice a 4 c] w (Ret (.int .u32 (numB s 0)) fun w' => Ext no w w') := by
  refine cachetteref10_number.run _ _ _ ?_
  unfold cachetteref10_number.N
  obtain ⟨ad, rfl, c0⟩ := byte_cell h (i := 0) (by omega)
  obtain ⟨_, e, c1⟩ := byte_cell h (i := 1) (by omega)
  cases e
  obtain ⟨_, e, c2⟩ := byte_cell h (i := 2) (by omega)
  cases e
  obtain ⟨_, e, c3⟩ := byte_cell h (i := 3) (by omega)
  cases e
  have h0 := byteN_lt s 0
  have h1 := byteN_lt s 1
  have h2 := byteN_lt s 2
  have h3 := byteN_lt s 3
  refine ⟨ad, rfl, by decide, _, c0, by decide, _, c1, by decide, _, c2, by decide, _, c3, fun w2 X => ⟨?_, X⟩⟩
  congr 1
  simp only [IntKind.wrap_u32]
  show _ = ((byteN s 0 * 16777216 + byteN s 1 * 65536 + byteN s 2 * 256 + byteN s 3 : Nat) : Int)
  omega
/-- a number within a sector. -/
theorem num_in (h : RowAt w a (bytesV s)) (hc : s.length ≤ c) {i : Nat} (hi : i + 4 ≤ s.length) :
    Calls Try.prog 56 #[.slice (cutA a c i 1) 4 (c - i)] w (Ret (.int .u32 (numB s i)) fun w' => Ext no w w') := by
  have hd : RowAt w (cutA a c i 1) (bytesV ((s.drop i).take 4)) := by
    have := (h.cut i c (by rw [bytesV_length]; exact hc)).take 4
    unfold bytesV at this ⊢
    rwa [← List.map_drop, ← List.map_take] at this
  have hn : numB ((s.drop i).take 4) 0 = numB s i := by
    have hb : ∀ k, k < 4 → byteN ((s.drop i).take 4) k = byteN s (i + k) := fun k hk => by
      unfold byteN
      rw [List.getElem?_take_of_lt hk, List.getElem?_drop]
    unfold numB
    rw [hb 0 (by decide), hb (0 + 1) (by decide), hb (0 + 2) (by decide), hb (0 + 3) (by decide)]; rfl
  have := num_spec (c := c - i) hd (by rw [List.length_take, List.length_drop]; omega)
  rw [hn] at this
  exact this
theorem bEq_spec {b : Option Addr} {d : Nat} {x y : List UInt8} (ha : RowAt w a (bytesV x)) (hb : RowAt w b (bytesV y)) :
    Calls Try.prog 64 #[.slice a x.length c, .slice b y.length d] w (Ret (.bool (decide (x = y))) fun w' => w' = w) := by
  refine bytes_Equal.run _ _ _ _ _ _ ?_
  unfold bytes_Equal.N
  refine ⟨_, conv_str Try.underlying30 Try.underlying5 Try.underlying9 ha, _, conv_str Try.underlying30 Try.underlying5 Try.underlying9 hb, ?_, rfl⟩
  have e : ∀ s : List UInt8, (ByteArray.mk s.toArray).toList = s := fun s => by
    simp
  congr 1
  rw [e, e, Bool.eq_iff_iff]
  simp
theorem eqFunc_spec {ba : Option Addr} {bc : Nat} {l1 l2 : List BS} (h1 : BsAt w a c l1) (h2 : BsAt w ba bc l2) (hl : l1.length < 1000000) :
    Calls Try.prog 63 #[.slice a l1.length c, .slice ba l2.length bc, .func (.func 64) #[] #[]] w (Ret (.bool (decide (l1.map BS.bs = l2.map BS.bs))) fun w' => w' = w) := by
  refine slices_EqualFunc_byte_byte_byte_byte.run _ _ _ _ _ _ _ _ _ ?_
  unfold slices_EqualFunc_byte_byte_byte_byte.N
  have leafF : l1.map BS.bs ≠ l2.map BS.bs → ∀ {w2 : World}, w2 = w → Value.bool false = .bool (decide (l1.map BS.bs = l2.map BS.bs)) ∧ w2 = w := fun h _ X => ⟨by rw [decide_eq_false h], X⟩
  refine ⟨fun h => leafF (fun e => h (by have := congrArg List.length e; simp at this; omega)) rfl, fun h => ?_⟩
  refine ⟨fun m vs w1 => ∃ t : Nat, vs = [.int .i64 t] ∧ m + t = l1.length ∧ w1 = w ∧ (l1.map BS.bs).take t = (l2.map BS.bs).take t, l1.length, ⟨0, rfl, rfl, rfl, rfl⟩, ?_⟩
  rintro m w7 i ⟨t, hi, hm, rfl, htk⟩
  simp only [List.cons.injEq, Value.int.injEq, true_and, and_true] at hi
  subst hi
  refine ⟨fun ht => ?_, fun ht => ?_⟩
  rotate_left
  · have htt : t = l1.length := by omega
    rw [List.take_of_length_le (by simp; omega), List.take_of_length_le (by simp; omega)] at htk
    exact ⟨by rw [decide_eq_true htk], rfl⟩
  have ht1 : t < l1.length := by omega
  have ht2 : t < l2.length := by omega
  have g1 : l1[t]? = some l1[t] := List.getElem?_eq_getElem ht1
  have g2 : l2[t]? = some l2[t] := List.getElem?_eq_getElem ht2
  obtain ⟨x1, x2⟩ := h1.oks _ (List.getElem_mem ht1)
  obtain ⟨y1, y2⟩ := h2.oks _ (List.getElem_mem ht2)
  have n1 : (l1.map BS.bs)[t]? = some (l1[t]).bs := by rw [List.getElem?_map, g1]; rfl
  have n2 : (l2.map BS.bs)[t]? = some (l2[t]).bs := by rw [List.getElem?_map, g2]; rfl
  generalize l1[t] = u at *
  generalize l2[t] = v at *
  obtain ⟨ad, rfl, c1⟩ := h1.cell g1
  obtain ⟨bd, rfl, c2⟩ := h2.cell g2
  refine ⟨ad, rfl, by omega, by omega, u.a, u.bs.length, u.c, by rw [Int.toNat_natCast]; exact c1, bd, rfl, by omega, by omega, v.a, v.bs.length, v.c, by rw [Int.toNat_natCast]; exact c2, by kernel_rfl, ?_⟩
  refine (by exact (bEq_spec (c := u.c) (d := v.c) x1 y1).mono fun z w18 ⟨he, hw⟩ => ⟨_, he, fun hs => leafF (fun e => of_decide_eq_false hs (by rw [e, n2] at n1; injection n1 with n1; exact n1.symm)) hw, fun hs => ⟨by omega, by omega, m - 1, by omega, t + 1, rfl, by omega, hw, by rw [List.take_add_one, List.take_add_one, htk, n1, n2, of_decide_eq_true hs]⟩⟩)
end
end Go.Proofs.Ytidijnfkcpbkiaa

/- Journal: the record that stands (both). -/
set_option linter.unusedVariables false
set_option linter.unusedSimpArgs false
set_option maxRecDepth 20000
set_option maxHeartbeats 2000000
namespace Go.Proofs.Ytidijnfkcpbkiaa
open Go Go.Mx Go.Proofs
open W (OwnB GivesW)
section
variable {w w' w1 : World} {o o' o1 : Own} {q g n N : Nat} {K : Nat → Prop} {b s : List UInt8} {a : Option Addr} {c : Nat} {l : List BS}
theorem body_row (h : RowAt w a (bytesV s)) (hc : s.length ≤ c) : RowAt w (cutA a c 16 1) (bytesV (bodyS s)) := by
  have := (h.cut 16 c (by rw [bytesV_length]; exact hc)).take (byteN s 15)
  unfold bodyS
  unfold bytesV at this ⊢
  rwa [← List.map_drop, ← List.map_take] at this
theorem body_len (h : s.length = 64) (h15 : byteN s 15 ≤ 48) : (bodyS s).length = byteN s 15 := by
  unfold bodyS
  rw [List.length_take, List.length_drop]; omega
theorem get_map_bs {l : List BS} {i : Nat} {x : BS} (h : l[i]? = some x) : (l.map BS.bs)[i]? = some x.bs := by rw [List.getElem?_map, h]; rfl
theorem mem_take_of {α : Type} {L : List α} {i k : Nat} {x : α} (hi : i < k) (h : L[i]? = some x) : x ∈ L.take k := by
  have : (L.take k)[i]? = some x := by rw [List.getElem?_take, if_pos hi]; exact h
  exact List.mem_of_getElem? this
/-- what is gathered of the first sectors. -/
structure Gath (w : World) (L : List (List UInt8)) (t : Nat) (w1 : World) (ba : Option Addr) (bc : Nat) (b : List UInt8) : Prop where
  own : OwnB w.heap.size w1 ba bc b
  ext : Ext no w w1
  ok : ∀ s ∈ L.take t, s.length = 64 ∧ byteN s 15 ≤ 48
  is : b = (L.take t).flatMap bodyS
theorem gath_len (h : Gath w (l.map BS.bs) n w1 a c b) (hn : n ≤ 255) : b.length ≤ 100000 := by
  rw [h.is]
  have := flat_le ((l.map BS.bs).take n)
  rw [List.length_take] at this
  omega
theorem record_spec (h : BsAt w a c l) (hl : l.length ≤ 100000) {gen seq : Nat} :
    Calls Try.prog 57 #[.slice a l.length c, .int .u32 gen, .int .u32 seq] w (fun z w' => ∃ ba bc, z = .returned (.tuple #[.slice ba (standK (l.map BS.bs) gen seq).1.length bc, .int .i64 (standK (l.map BS.bs) gen seq).2]) ∧ OwnB w.heap.size w' ba bc (standK (l.map BS.bs) gen seq).1 ∧ Ext no w w') := by
  refine (journal_record.go _ _ _ _ _ (R := fun z w' => ∃ ba bc, z = (.tuple #[.slice ba (standK (l.map BS.bs) gen seq).1.length bc, .int .i64 (standK (l.map BS.bs) gen seq).2]) ∧ OwnB w.heap.size w' ba bc (standK (l.map BS.bs) gen seq).1 ∧ Ext no w w') ?_).mono fun z w' ⟨u, he, ba, bc, hu, hw⟩ => ⟨ba, bc, by rw [he, hu], hw⟩
  unfold journal_record.N
  generalize hL : l.map BS.bs = L at *
  have hLl : L.length = l.length := by rw [← hL, List.length_map]
  have leaf : ¬ OKS L gen seq → ∀ {w2 : World}, Ext no w w2 → ∃ ba bc, Value.tuple #[.slice none 0 0, .int .i64 0] = (.tuple #[.slice ba (standK L gen seq).1.length bc, .int .i64 (standK L gen seq).2]) ∧ OwnB w.heap.size w2 ba bc (standK L gen seq).1 ∧ Ext no w w2 := fun hn w2 X => by
    rw [standK_no hn]; exact ⟨none, 0, rfl, W.OwnB.nil _ _, X⟩
  refine ⟨fun h0 => leaf (fun k => k.1 (List.eq_nil_of_length_eq_zero (by omega))) (Ext.refl _ _), fun h0 => ?_⟩
  have hi0 : 0 < l.length := by omega
  have g0 : l[0]? = some l[0] := List.getElem?_eq_getElem hi0
  have hm0 := List.getElem_mem hi0
  generalize l[0] = x0 at *
  have hhead : L.headD [] = x0.bs := by
    have := get_map_bs g0
    rw [hL] at this
    cases L with
    | nil => simp at this
    | cons y r => simp at this; exact this
  obtain ⟨ad, rfl, c0⟩ := h.cell g0
  obtain ⟨r0, e0⟩ := h.oks x0 hm0
  refine ⟨ad, rfl, by omega, x0.a, x0.bs.length, x0.c, c0, ?_⟩
  refine (sIs_spec (c := x0.c) r0).mono fun u w10 ⟨he, hw⟩ => ⟨_, he, fun hs => ?_, fun hs => ?_⟩
  · subst hw
    exact leaf (fun k => of_decide_eq_false hs (by rw [← hhead]; exact ⟨(k.mark _ k.head).2, (k.mark _ k.head).1⟩)) (Ext.refl _ _)
  subst hw
  obtain ⟨h64, hmk⟩ := of_decide_eq_true hs
  obtain ⟨xd, hxd, c14⟩ := byte_cell r0 (i := 14) (by omega)
  have hcnt : byteN x0.bs 14 = cntK L := by unfold cntK; rw [hhead]
  rw [hcnt] at c14
  have hc255 := cntK_lt L
  refine ⟨by omega, x0.a, x0.bs.length, x0.c, c0, xd, hxd, by omega, _, c14, by omega, by omega, fun hgt => leaf (fun k => by have := k.2.2.1; omega) (Ext.refl _ _), fun hle => ⟨by omega, by have := h.le; omega, ?_⟩⟩
  rw [Int.toNat_natCast]
  refine ⟨fun m vs w1 => ∃ (t : Nat) (ba : Option Addr) (bc : Nat) (b : List UInt8), vs = [.slice ba b.length bc, .int .i64 (cntK L : Nat), .int .i64 t] ∧ m + t = cntK L ∧ Gath w10 L t w1 ba bc b, cntK L, ⟨0, none, 0, [], rfl, rfl, ⟨W.OwnB.nil _ _, Ext.refl _ _, fun s hs => by simp at hs, rfl⟩⟩, ?_⟩
  rintro m w23 ba bn bc n19 i ⟨t, ba', bc', b, hi, hm, G⟩
  simp only [List.cons.injEq, Value.slice.injEq, Value.int.injEq, true_and, and_true] at hi
  obtain ⟨⟨rfl, rfl, rfl⟩, rfl, rfl⟩ := hi
  have h23 := h.no G.ext
  refine ⟨fun ht => ?_, fun ht => ?_⟩
  · have htl : t < l.length := by omega
    have gt : l[t]? = some l[t] := List.getElem?_eq_getElem htl
    have hmt := List.getElem_mem htl
    generalize l[t] = x at *
    have gL : L[t]? = some x.bs := by rw [← hL]; exact get_map_bs gt
    have hin : x.bs ∈ L.take (cntK L) := mem_take_of (by omega) gL
    obtain ⟨_, e, cx⟩ := h23.cell gt
    cases e
    obtain ⟨rx, ex⟩ := h23.oks x hmt
    refine ⟨by omega, by omega, x.a, x.bs.length, x.c, by rw [Int.toNat_natCast]; exact cx, ?_⟩
    refine (sIs_spec (c := x.c) rx).mono fun u w29 ⟨he, hw⟩ => ⟨_, he, fun hs => ?_, fun hs => ?_⟩
    · subst hw
      exact leaf (fun k => of_decide_eq_false hs ⟨(k.mark _ hin).2, (k.mark _ hin).1⟩) G.ext
    subst hw
    obtain ⟨hx64, hxm⟩ := of_decide_eq_true hs
    obtain ⟨yd, hyd, c15⟩ := byte_cell rx (i := 15) (by omega)
    refine ⟨yd, hyd, by omega, _, c15, fun hgt => leaf (fun k => by have := (k.2.2.2.1 _ hin).2; omega) G.ext, fun hle15 => ⟨by omega, _, c15, by omega, by omega, by omega, by omega, by omega, by omega, by omega, ?_⟩⟩
    have hbl := body_len hx64 (by omega)
    have hcut : Int.toNat ((16 : Int) + (byteN x.bs 15 : Int)) - 16 = (bodyS x.bs).length := by rw [hbl]; omega
    rw [hcut]
    have hgl := gath_len (l := l) (by rw [hL]; exact G) (show t ≤ 255 by omega)
    obtain ⟨a', c', w38, hr, O38, X38, _⟩ := appB (xc := x.c - 16) G.own G.ext (Nat.le_refl _) G.ext.size (Ext.refl no w29) (body_row rx ex) (by omega)
    refine ⟨a', _, c', w38, hr, by omega, by omega, m - 1, by omega, t + 1, a', c', _, rfl, by omega, ⟨O38, X38, fun s hs => ?_, ?_⟩⟩
    · rw [List.take_add_one, gL] at hs
      rcases List.mem_append.1 hs with hs | hs
      · exact G.ok s hs
      · simp at hs; subst hs; exact ⟨hx64, by omega⟩
    · rw [List.take_add_one, gL, List.flatMap_append, ← G.is]; simp
  · have htt : t = cntK L := by omega
    subst htt
    have hbK : b = bodyK L := G.is
    have hgl := gath_len (l := l) (by rw [hL]; exact G) (show cntK L ≤ 255 by omega)
    have r0' := r0.no G.ext
    refine (at_spec (i := 5) r0' e0 (by omega) (by omega)).mono fun u w42 ⟨he, hw⟩ => ⟨_, he, ?_⟩
    subst hw
    have hnum : numB x0.bs 5 = numB (L.headD []) 5 := by rw [hhead]
    rw [hnum]
    refine (fFrame_spec (o := fun _ => none) (fun b j _ h => by cases h) G.own.row G.own.le (by omega) gen (numB (L.headD []) 5) seq).mono fun u w46 ⟨o46, fa, fc, f, he, s46, hfm, hf⟩ => ⟨_, _, _, _, he, fun hne => leaf (fun k => hne (by rw [hbK]; exact congrArg Prod.snd k.2.2.2.2)) (G.ext.trans (s46.ext.mono fun b ⟨_, _, h⟩ _ => h)), fun heq => ⟨by omega, by have := h.le; omega, ?_⟩⟩
    have X46 : Ext no w42 w46 := s46.ext.mono fun b ⟨_, _, h⟩ _ => h
    rw [Int.toNat_natCast]
    have hlt : (l.take (cntK L)).length = cntK L := by rw [List.length_take]; omega
    have hfl : f.length < 1000000 := by
      have h1 := congrArg List.length hfm
      rw [List.length_map] at h1
      rw [h1]
      unfold frameK
      split
      · exact (by decide)
      · split
        · exact (by decide)
        · show (frameL _ _ _ _).length < _
          unfold frameL
          rw [List.length_map, List.length_range]
          have := partsN_le b.length
          omega
    have hq := eqFunc_spec hf.at ((h23.no X46).take (cntK L)) hfl
    rw [hlt] at hq
    refine hq.mono fun u w50 ⟨he, hw⟩ => ⟨_, he, fun hs => ?_, fun hs => ?_⟩
    · have hs' := of_decide_eq_false hs
      subst hw
      exact leaf (fun k => hs' (by
        rw [hfm, List.map_take, hL, hbK]
        exact congrArg Prod.fst k.2.2.2.2)) (G.ext.trans X46)
    · have hs' := of_decide_eq_true hs
      subst hw
      rw [hfm, List.map_take, hL] at hs'
      have hOK : OKS L gen seq := ⟨fun e => by rw [e] at hLl; simp at hLl; omega, by rw [hhead]; exact h64, by omega, G.ok, Prod.ext (by rw [← hbK]; exact hs') (by rw [← hbK]; exact heq)⟩
      rw [standK_yes hOK, ← hbK]
      exact ⟨ba, bc, rfl, W.OwnB.no G.own X46, G.ext.trans X46⟩
theorem stands_spec (h : BsAt w a c l) (hl : l.length ≤ 100000) {gen seq : Nat} (hg : gen < 4294967296) (hse : seq < 4294967296) :
    Calls Try.prog 55 #[.slice a l.length c, .int .u32 gen, .int .u32 seq] w (fun z w' => ∃ ba bc, z = .returned (.tuple #[.slice ba (standK (l.map BS.bs) gen seq).1.length bc, .int .i64 (standK (l.map BS.bs) gen seq).2]) ∧ OwnB w.heap.size w' ba bc (standK (l.map BS.bs) gen seq).1 ∧ Ext no w w') := by
  refine (cachetteref10_stands.go _ _ _ _ _ (R := fun z w' => ∃ ba bc, z = (.tuple #[.slice ba (standK (l.map BS.bs) gen seq).1.length bc, .int .i64 (standK (l.map BS.bs) gen seq).2]) ∧ OwnB w.heap.size w' ba bc (standK (l.map BS.bs) gen seq).1 ∧ Ext no w w') ?_).mono fun z w' ⟨u, he, ba, bc, hu, hw⟩ => ⟨ba, bc, by rw [he, hu], hw⟩
  unfold cachetteref10_stands.N
  generalize hL : l.map BS.bs = L at *
  have hLl : L.length = l.length := by rw [← hL, List.length_map]
  have leaf : ¬ OKS L gen seq → ∀ {w2 : World}, Ext no w w2 → ∃ ba bc, Value.tuple #[.slice none 0 0, .int .i64 0] = (.tuple #[.slice ba (standK L gen seq).1.length bc, .int .i64 (standK L gen seq).2]) ∧ OwnB w.heap.size w2 ba bc (standK L gen seq).1 ∧ Ext no w w2 := fun hn w2 X => by
    rw [standK_no hn]; exact ⟨none, 0, rfl, W.OwnB.nil _ _, X⟩
  refine ⟨fun h0 => leaf (fun k => k.1 (List.eq_nil_of_length_eq_zero (by omega))) (Ext.refl _ _), fun h0 => ?_⟩
  have hi0 : 0 < l.length := by omega
  have g0 : l[0]? = some l[0] := List.getElem?_eq_getElem hi0
  have hm0 := List.getElem_mem hi0
  generalize l[0] = x0 at *
  have hhead : L.headD [] = x0.bs := by
    have := get_map_bs g0
    rw [hL] at this
    cases L with
    | nil => simp at this
    | cons y r => simp at this; exact this
  obtain ⟨ad, rfl, c0⟩ := h.cell g0
  obtain ⟨r0, e0⟩ := h.oks x0 hm0
  refine ⟨ad, rfl, by omega, x0.a, x0.bs.length, x0.c, c0, fun hne => leaf (fun k => hne (by have := k.2.1; rw [hhead] at this; omega)) (Ext.refl _ _), fun h64' => ?_⟩
  have h64 : x0.bs.length = 64 := by omega
  obtain ⟨xd, hxd, c14⟩ := byte_cell r0 (i := 14) (by omega)
  have hcnt : byteN x0.bs 14 = cntK L := by unfold cntK; rw [hhead]
  rw [hcnt] at c14
  have hc255 := cntK_lt L
  refine ⟨by omega, x0.a, x0.bs.length, x0.c, c0, by omega, by omega, x0.a, x0.bs.length, x0.c, c0, xd, hxd, by omega, _, c14, by omega, by omega, fun w9 X9 => ?_⟩
  have hnum : numB x0.bs 5 = numB (L.headD []) 5 := by rw [hhead]
  have hn := num_in (i := 5) (r0.no X9) e0 (by omega)
  rw [hnum] at hn
  refine hn.mono fun u w19 ⟨he, X19'⟩ => ⟨_, he, ?_⟩
  have X19 := X9.trans X19'
  refine ⟨X19.cell c14 id, X19.cell c0 id, fun hz => leaf (fun k => k.round (by omega)) X19, fun hz => ⟨fun hz0 => leaf (fun k => k.cnt (by omega)) X19, fun hz0 => ⟨fun hgt => leaf (fun k => by have := k.2.2.1; omega) X19, fun hle => ?_⟩⟩⟩
  refine ⟨fun m vs w1 => ∃ (t : Nat) (ba : Option Addr) (bc : Nat) (b : List UInt8), vs = [.slice ba b.length bc, .int .i64 t] ∧ m + t = cntK L ∧ Gath w L t w1 ba bc b, cntK L, ⟨0, none, 0, [], rfl, rfl, ⟨W.OwnB.nil _ _, X19, fun s hs => by simp at hs, rfl⟩⟩, ?_⟩
  rintro m w23 ba bn bc i ⟨t, ba', bc', b, hi, hm, G⟩
  simp only [List.cons.injEq, Value.slice.injEq, Value.int.injEq, true_and, and_true] at hi
  obtain ⟨⟨rfl, rfl, rfl⟩, rfl⟩ := hi
  have h23 := h.no G.ext
  refine ⟨fun ht => ?_, fun ht => ?_⟩
  · have htl : t < l.length := by omega
    have gt : l[t]? = some l[t] := List.getElem?_eq_getElem htl
    have hmt := List.getElem_mem htl
    generalize l[t] = x at *
    have gL : L[t]? = some x.bs := by rw [← hL]; exact get_map_bs gt
    have hin : x.bs ∈ L.take (cntK L) := mem_take_of (by omega) gL
    obtain ⟨_, e, cx⟩ := h23.cell gt
    cases e
    obtain ⟨rx, ex⟩ := h23.oks x hmt
    have cx' : w23.cell? (ad.add (Int.toNat (t : Int) * 1)) = some (.slice x.a x.bs.length x.c) := by rw [Int.toNat_natCast]; exact cx
    refine ⟨by omega, by omega, x.a, x.bs.length, x.c, cx', fun hne => leaf (fun k => hne (by have := (k.2.2.2.1 _ hin).1; omega)) G.ext, fun hx64' => ?_⟩
    have hx64 : x.bs.length = 64 := by omega
    obtain ⟨yd, hyd, c15⟩ := byte_cell rx (i := 15) (by omega)
    refine ⟨by omega, by omega, x.a, x.bs.length, x.c, cx', yd, hyd, by omega, _, c15, fun hgt => leaf (fun k => by have := (k.2.2.2.1 _ hin).2; omega) G.ext, fun hle15 => ⟨by omega, by omega, x.a, x.bs.length, x.c, cx', by omega, by omega, x.a, x.bs.length, x.c, cx', yd, hyd, by omega, _, c15, by omega, by omega, by omega, by omega, by omega, by omega, by omega, fun w40 X40 => ?_⟩⟩
    have hbl := body_len hx64 (by omega)
    have hcut : Int.toNat ((16 : Int) + (byteN x.bs 15 : Int)) - 16 = (bodyS x.bs).length := by rw [hbl]; omega
    rw [hcut]
    have hgl := gath_len (l := l) (by rw [hL]; exact G) (show t ≤ 255 by omega)
    obtain ⟨a', c', w38, hr, O38, X38, _⟩ := appB (xc := x.c - 16) G.own G.ext (Nat.le_refl _) G.ext.size X40 (body_row (rx.no X40) ex) (by omega)
    refine ⟨a', _, c', w38, hr, by omega, by omega, m - 1, by omega, t + 1, a', c', _, rfl, by omega, ⟨O38, X38, fun s hs => ?_, ?_⟩⟩
    · rw [List.take_add_one, gL] at hs
      rcases List.mem_append.1 hs with hs | hs
      · exact G.ok s hs
      · simp at hs; subst hs; exact ⟨hx64, by omega⟩
    · rw [List.take_add_one, gL, List.flatMap_append, ← G.is]; simp
  · have htt : t = cntK L := by omega
    subst htt
    have hbK : b = bodyK L := G.is
    have hgl := gath_len (l := l) (by rw [hL]; exact G) (show cntK L ≤ 255 by omega)
    refine (rFrame_spec (o := fun _ => none) (fun b j _ h => by cases h) G.own.row G.own.le (by omega) hg (numB_lt _ 5) hse).mono fun u w46 ⟨o46, fa, fc, f, he, s46, hfm, hf, _⟩ => ⟨_, _, _, _, he, fun hne => leaf (fun k => hne (by rw [hbK]; exact congrArg Prod.snd k.2.2.2.2)) (G.ext.trans (s46.ext.mono fun b ⟨_, _, h⟩ _ => h)), fun heq => ?_⟩
    have X46 : Ext no w23 w46 := s46.ext.mono fun b ⟨_, _, h⟩ _ => h
    have hLt : (L.take (cntK L)).length = cntK L := by rw [List.length_take]; omega
    have hfl : f.length = (frameK gen (numB (L.headD []) 5) seq b).1.length := by rw [← hfm, List.length_map]
    refine ⟨fun hne => leaf (fun k => hne (by
      have := congrArg (fun z : List (List UInt8) × Int => z.1.length) k.2.2.2.2
      rw [← hbK] at this
      simp only [hLt] at this
      omega)) (G.ext.trans X46), fun hlen => ?_⟩
    have h46 := h23.no X46
    have hfa := hf.at
    refine ⟨fun m vs w1 => ∃ t : Nat, vs = [.int .i64 t] ∧ m + t = cntK L ∧ Ext no w46 w1 ∧ (f.map BS.bs).take t = L.take t, cntK L, ⟨0, rfl, rfl, Ext.refl _ _, rfl⟩, ?_⟩
    rintro m2 w60 i ⟨t, hi, hm2, X60, htk⟩
    simp only [List.cons.injEq, Value.int.injEq, true_and, and_true] at hi
    subst hi
    refine ⟨fun ht => ?_, fun ht => ?_⟩
    · have ht1 : t < f.length := by omega
      have ht2 : t < l.length := by omega
      have g1 : f[t]? = some f[t] := List.getElem?_eq_getElem ht1
      have g2 : l[t]? = some l[t] := List.getElem?_eq_getElem ht2
      have n1 := get_map_bs g1
      have n2 : L[t]? = some (l[t]).bs := by rw [← hL]; exact get_map_bs g2
      obtain ⟨p1, p2⟩ := (hfa.no X60).oks _ (List.getElem_mem ht1)
      obtain ⟨q1, q2⟩ := (h46.no X60).oks _ (List.getElem_mem ht2)
      generalize f[t] = u at *
      generalize l[t] = v at *
      obtain ⟨fd, hfd, d1⟩ := (hfa.no X60).cell g1
      obtain ⟨_, e, d2⟩ := (h46.no X60).cell g2
      cases e
      refine ⟨fd, hfd, by omega, by omega, u.a, u.bs.length, u.c, by rw [Int.toNat_natCast]; exact d1, by omega, by omega, v.a, v.bs.length, v.c, by rw [Int.toNat_natCast]; exact d2, fun w62 X62 => ?_⟩
      have hul : u.bs.length < 1000000 := by
        have hu : u.bs ∈ (frameK gen (numB (L.headD []) 5) seq b).1 := by rw [← hfm]; exact List.mem_of_getElem? n1
        have hz := frameK_zero (f := (frameK gen (numB (L.headD []) 5) seq b).1) (gen := gen) (round := numB (L.headD []) 5) (seq := seq) (b := b) (Prod.ext rfl heq)
        have hu2 : u.bs ∈ frameL gen (numB (L.headD []) 5) seq b := by rw [← hz.2.2.2.1]; exact hu
        have := (sec_mark hu2).2
        omega
      refine (W.sameB_spec (p1.no X62) (q1.no X62) hul).mono fun z w70 ⟨he, X70⟩ => ⟨_, he, fun hs => ?_, fun hs => ?_⟩
      · have hne := of_decide_eq_false hs
        refine leaf (fun k => hne ?_) (G.ext.trans (((X46.trans X60).trans X62).trans X70))
        have hk : f.map BS.bs = L.take (cntK L) := by rw [hfm, hbK]; exact congrArg Prod.fst k.2.2.2.2
        rw [hk, List.getElem?_take, if_pos (by omega), n2] at n1
        injection n1 with n1
        exact n1.symm
      · have heq' := of_decide_eq_true hs
        exact ⟨by omega, by omega, m2 - 1, by omega, t + 1, rfl, by omega, (X60.trans X62).trans X70, by rw [List.take_add_one, List.take_add_one, htk, n1, n2, heq']⟩
    · have htt : t = cntK L := by omega
      have hs' : (frameK gen (numB (L.headD []) 5) seq b).1 = L.take (cntK L) := by
        rw [← htt, ← htk, List.take_of_length_le (by rw [List.length_map]; omega), hfm]
      have hOK : OKS L gen seq := ⟨fun e => by rw [e] at hLl; simp at hLl; omega, by rw [hhead]; exact h64, by omega, G.ok, Prod.ext (by rw [← hbK]; exact hs') (by rw [← hbK]; exact heq)⟩
      rw [standK_yes hOK, ← hbK]
      have X := X46.trans X60
      exact ⟨ba, bc, rfl, W.OwnB.no G.own X, G.ext.trans X⟩
end
end Go.Proofs.Ytidijnfkcpbkiaa

/- Journal: a scan (both). -/
set_option linter.unusedVariables false
set_option linter.unusedSimpArgs false
set_option maxRecDepth 20000
set_option maxHeartbeats 2000000
namespace Go.Proofs.Ytidijnfkcpbkiaa
open Go Go.Mx Go.Proofs
open W (OwnB GivesW)
def scanG (gen : Nat) : Nat → List (List UInt8) → Nat → List (List UInt8) × Nat
  | 0, _, _ => ([], 0)
  | k + 1, L, s => if (standK L gen s).2 = 0 then ([], 0) else ((standK L gen s).1 :: (scanG gen k (L.drop (standK L gen s).2) (s + 1)).1, (standK L gen s).2 + (scanG gen k (L.drop (standK L gen s).2) (s + 1)).2)
def roundStep (gen : Nat) (r : Nat) (s : List UInt8) : Nat := if s.length = 64 ∧ byteN s 0 = 197 ∧ numB s 1 = gen then max r (numB s 5) else r
def roundOf (gen : Nat) (L : List (List UInt8)) : Nat := L.foldl (roundStep gen) 0
def scanK (L : List (List UInt8)) (gen : Nat) : (List (List UInt8) × Nat) × Nat := (scanG gen (L.length + 1) L 0, roundOf gen L)
theorem roundStep_lt {gen r : Nat} {s : List UInt8} (h : r < 4294967296) : roundStep gen r s < 4294967296 := by
  unfold roundStep
  have := numB_lt s 5
  split <;> omega
theorem roundOf_lt (gen : Nat) (L : List (List UInt8)) : roundOf gen L < 4294967296 := by
  unfold roundOf
  have : ∀ (L : List (List UInt8)) (r : Nat), r < 4294967296 → L.foldl (roundStep gen) r < 4294967296 := by
    intro L
    induction L with
    | nil => intro r h; exact h
    | cons x t ih => intro r h; exact ih _ (roundStep_lt h)
  exact this L 0 (by decide)
theorem roundOf_step {gen : Nat} {L : List (List UInt8)} {t : Nat} {s : List UInt8} (h : L[t]? = some s) : roundOf gen (L.take (t + 1)) = roundStep gen (roundOf gen (L.take t)) s := by
  unfold roundOf
  rw [List.take_add_one, h, List.foldl_append]; rfl
theorem scanG_zero : ∀ (k : Nat) (L : List (List UInt8)) (s : Nat), scanG 0 k L s = ([], 0)
  | 0, _, _ => rfl
  | k + 1, L, s => by
    have : (standK L 0 s).2 = 0 := by rw [standK_no fun h => h.genz rfl]
    simp only [scanG, this, if_true]
theorem scanG_le (gen : Nat) : ∀ (k : Nat) (L : List (List UInt8)) (s : Nat), (scanG gen k L s).2 ≤ L.length ∧ (scanG gen k L s).1.length ≤ (scanG gen k L s).2
  | 0, L, s => ⟨Nat.zero_le _, Nat.le_refl _⟩
  | k + 1, L, s => by
    by_cases h : (standK L gen s).2 = 0
    · simp only [scanG, h, if_true]; exact ⟨Nat.zero_le _, Nat.le_refl _⟩
    · have h1 := standK_le L gen s
      have ih := scanG_le gen k (L.drop (standK L gen s).2) (s + 1)
      rw [List.length_drop] at ih
      simp only [scanG, if_neg h, List.length_cons]
      omega
section
variable {w w' w1 : World} {o o' o1 : Own} {q g n N : Nat} {K : Nat → Prop} {b s : List UInt8} {a : Option Addr} {c : Nat} {l : List BS}
theorem max_int (x y : Nat) : (if ((x : Int) : Int) > (y : Int) then (x : Int) else (y : Int)) = ((max y x : Nat) : Int) := by
  split <;> omega
theorem scan_spec (ok : Tags w o) (h : BsAt w a c l) (hl : l.length ≤ 100000) (gen : Nat) :
    Calls Try.prog 52 #[.slice a l.length c, .int .u32 gen] w (fun z w' => ∃ o' ra rc, ∃ r : List BS, z = .returned (.tuple #[.slice ra r.length rc, .int .i64 (scanK (l.map BS.bs) gen).1.2, .int .u32 (scanK (l.map BS.bs) gen).2]) ∧ Step no w o w' o' ∧ r.map BS.bs = (scanK (l.map BS.bs) gen).1.1 ∧ BsRow w' o' ra rc r) := by
  refine (journal_Scan.go _ _ _ _ (R := fun z w' => ∃ o' ra rc, ∃ r : List BS, z = (.tuple #[.slice ra r.length rc, .int .i64 (scanK (l.map BS.bs) gen).1.2, .int .u32 (scanK (l.map BS.bs) gen).2]) ∧ Step no w o w' o' ∧ r.map BS.bs = (scanK (l.map BS.bs) gen).1.1 ∧ BsRow w' o' ra rc r) ?_).mono fun z w' ⟨u, he, o', ra, rc, r, hu, hw⟩ => ⟨o', ra, rc, r, by rw [he, hu], hw⟩
  unfold journal_Scan.N
  generalize hL : l.map BS.bs = L at *
  have hLl : L.length = l.length := by rw [← hL, List.length_map]
  obtain ⟨T, hT⟩ : ∃ T, scanG gen (L.length + 1) L 0 = T := ⟨_, rfl⟩
  refine ⟨fun m vs w1 => ∃ (t : Nat) (o1 : Own) (ra : Option Addr) (rc : Nat) (r : List BS), vs = [.slice ra r.length rc, .int .i64 t] ∧ t ≤ L.length ∧ L.length < m + t ∧ r.length ≤ t ∧ Step no w o w1 o1 ∧ BsL w.heap.size w1 o1 ra rc r ∧ (r.map BS.bs ++ (scanG gen m (L.drop t) r.length).1, t + (scanG gen m (L.drop t) r.length).2) = T, L.length + 1, ⟨0, o, none, 0, [], rfl, Nat.zero_le _, by omega, Nat.le_refl _, Step.refl _ ok, BsL.nil _ _ _, by rw [← hT]; simp⟩, ?_⟩
  rintro m w7 ra rn rc i ⟨t, o7, ra', rc', r, hi, ht, hm, hrt, s7, R7, hG⟩
  simp only [List.cons.injEq, Value.slice.injEq, Value.int.injEq, true_and, and_true] at hi
  obtain ⟨⟨rfl, rfl, rfl⟩, rfl⟩ := hi
  obtain ⟨k, rfl⟩ : ∃ k, m = k + 1 := ⟨m - 1, by omega⟩
  have h7 := h.no (s7.ext.mono fun b ⟨_, _, h⟩ _ => h)
  have hseq : IntKind.u32.wrap (r.length : Int) = (r.length : Int) := by rw [IntKind.wrap_u32]; omega
  refine ⟨by omega, by omega, ?_⟩
  rw [hseq, Int.toNat_natCast]
  have hdl : l.length - t = (l.drop t).length := by rw [List.length_drop]
  rw [hdl]
  have hrec := record_spec (h7.cut t) (by rw [List.length_drop]; omega) (gen := gen) (seq := r.length)
  rw [List.map_drop, hL] at hrec
  refine hrec.mono fun u w11 ⟨ba, bc, he, hO, X11⟩ => ⟨_, _, _, _, he, fun hz => ?_, fun hz w36 q X36 hb hq hq' => ?_⟩
  · have hz' : (standK (L.drop t) gen r.length).2 = 0 := by omega
    simp only [scanG, hz', if_true, List.append_nil, Nat.add_zero] at hG
    have s11 := Step.of_no X11 s7.ok
    have R11 := R7.step s11 fun _ h => h.elim
    have s011 := s7.trans s11
    have h11 := h7.no X11
    refine ⟨fun m vs w1 => ∃ t2 : Nat, vs = [.int .u32 (roundOf gen (L.take t2) : Nat), .int .i64 t2] ∧ m + t2 = l.length ∧ w1 = w11, l.length, ⟨0, rfl, rfl, rfl⟩, ?_⟩
    rintro m2 w17 rd i ⟨t2, hi, hm2, rfl⟩
    simp only [List.cons.injEq, Value.int.injEq, true_and, and_true] at hi
    obtain ⟨rfl, rfl⟩ := hi
    refine ⟨fun h2 => ?_, fun h2 => ?_⟩
    · have htl : t2 < l.length := by omega
      have gt : l[t2]? = some l[t2] := List.getElem?_eq_getElem htl
      have hmt := List.getElem_mem htl
      have gL : L[t2]? = some (l[t2]).bs := by rw [← hL]; exact get_map_bs gt
      generalize l[t2] = x at *
      obtain ⟨xd, hxd, cx⟩ := h11.cell gt
      obtain ⟨rx, ex⟩ := h11.oks x hmt
      have hst := roundOf_step (gen := gen) gL
      have nx : ∀ v : Nat, v = roundOf gen (L.take (t2 + 1)) → (-9223372036854775808 : Int) ≤ ((t2 : Int) + 1) ∧ ((t2 : Int) + 1) < 9223372036854775808 ∧ ∃ m', m' < m2 ∧ ∃ t3 : Nat, [Value.int .u32 (v : Int), Value.int .i64 ((t2 : Int) + 1)] = [.int .u32 (roundOf gen (L.take t3) : Nat), .int .i64 t3] ∧ m' + t3 = l.length ∧ w17 = w17 := fun v hv => ⟨by omega, by omega, m2 - 1, by omega, t2 + 1, by rw [hv]; rfl, by omega, rfl⟩
      refine ⟨xd, hxd, by omega, by omega, x.a, x.bs.length, x.c, by rw [Int.toNat_natCast]; exact cx, ?_⟩
      refine (sIs_spec (c := x.c) rx).mono fun u w24 ⟨he, hw⟩ => ⟨_, he, fun hs => ?_, fun hs => ?_⟩
      · subst hw
        obtain ⟨h64, hmk⟩ := of_decide_eq_true hs
        refine (at_spec (i := 1) rx ex (by omega) (by omega)).mono fun u w28 ⟨he, hw⟩ => ⟨_, he, fun hgen => ?_, fun hgen => ?_⟩
        · subst hw
          refine (at_spec (i := 5) rx ex (by omega) (by omega)).mono fun u w32 ⟨he, hw⟩ => ⟨_, he, ?_⟩
          subst hw
          rw [max_int]
          exact nx _ (by rw [hst]; unfold roundStep; rw [if_pos ⟨h64, hmk, by omega⟩])
        · subst hw
          exact nx _ (by rw [hst]; unfold roundStep; rw [if_neg (by omega)])
      · subst hw
        have hs' := of_decide_eq_false hs
        exact nx _ (by rw [hst]; unfold roundStep; rw [if_neg (fun h => hs' ⟨h.1, h.2.1⟩)])
    · have htt : t2 = l.length := by omega
      have hfin : scanK L gen = ((r.map BS.bs, t), roundOf gen L) := by unfold scanK; rw [hT, ← hG]
      rw [hfin, htt, List.take_of_length_le (by omega)]
      exact ⟨_, ra, rc, r, rfl, Step.of_no (s011.ext.mono fun b ⟨_, _, h⟩ _ => h) ok, rfl, R11.give s011 (Nat.le_refl _)⟩
  · have hz' : ¬ (standK (L.drop t) gen r.length).2 = 0 := by omega
    have hsl := standK_le (L.drop t) gen r.length
    rw [List.length_drop] at hsl
    simp only [scanG, if_neg hz'] at hG
    have s11 := Step.of_no X11 s7.ok
    have R11 := R7.step s11 fun _ h => h.elim
    have okx : BSok w11 (grow w7 o7) ⟨ba, bc, (standK (L.drop t) gen r.length).1⟩ := ⟨Row.fresh hO.row fun ad ha => (hO.fr ad ha).1, hO.le⟩
    have l7 := s7.size
    obtain ⟨a', c', w39, o39, hr, s39, R39⟩ := R11.push s11.ok (by omega) okx X36 hb hq hq' (by have := X11.size; omega)
    refine ⟨a', _, c', w39, hr, by omega, by omega, k, by omega, t + (standK (L.drop t) gen r.length).2, o39, a', c', _, by rw [Int.natCast_add], by omega, by omega, by rw [List.length_append, List.length_singleton]; omega, (s7.trans s11).trans' s39 fun i hi => .inr hi, R39, ?_⟩
    rw [← hG, List.map_append, List.length_append, List.length_singleton, List.drop_drop]
    simp only [List.map_cons, List.map_nil, List.append_assoc, List.singleton_append, Nat.add_assoc]
theorem rround (h : BsAt w a c l) (hbig : l.length ≤ 100000) (gen : Nat) {End : Int → World → Prop} (hE : ∀ w2, Ext no w w2 → End (roundOf gen (l.map BS.bs) : Nat) w2) :
    ∃ (I2 : Nat → List Value → World → Prop) (m52 : Nat), I2 m52 [.int .u32 0, .int .i64 0] w ∧ ∀ (m53 : Nat) (ww54 : World) (round50 : Int) (i51 : Int), I2 m53 [.int .u32 round50, .int .i64 i51] ww54 →
    (i51 < (l.length : Int) →
      ∃ a56 : Addr, a = some a56 ∧
      0 ≤ (i51 : Int) ∧ (i51 : Int) < (l.length : Int) ∧
      ∃ (x58a : Option Addr) (x58n : Nat) (x58c : Nat), ww54.cell? (a56.add (Int.toNat i51 * 1)) = some (.slice x58a x58n x58c) ∧
      ((x58n : Int) = 64 →
        0 ≤ (i51 : Int) ∧ (i51 : Int) < (l.length : Int) ∧
        ∃ (x61a : Option Addr) (x61n : Nat) (x61c : Nat), ww54.cell? (a56.add (Int.toNat i51 * 1)) = some (.slice x61a x61n x61c) ∧
        ∃ a62 : Addr, x61a = some a62 ∧
        (0 : Int) < (x61n : Int) ∧
        ∃ (x64 : Int), ww54.cell? (a62.add (Int.toNat 0 * 1)) = some (.int .u8 x64) ∧
        (x64 = 197 →
          0 ≤ (i51 : Int) ∧ (i51 : Int) < (l.length : Int) ∧
          ∃ (x67a : Option Addr) (x67n : Nat) (x67c : Nat), ww54.cell? (a56.add (Int.toNat i51 * 1)) = some (.slice x67a x67n x67c) ∧
          (5 : Int) ≤ (x67c : Int) ∧
          Calls Try.prog 56 #[.slice (cutA x67a x67c 1 1) (5 - 1) (x67c - 1)] ww54 fun ee69 ww70 => ∃ (number68 : Int), ee69 = .returned (.int .u32 number68) ∧
          (number68 = gen →
            0 ≤ (i51 : Int) ∧ (i51 : Int) < (l.length : Int) ∧
            ∃ (x73a : Option Addr) (x73n : Nat) (x73c : Nat), ww70.cell? (a56.add (Int.toNat i51 * 1)) = some (.slice x73a x73n x73c) ∧
            (9 : Int) ≤ (x73c : Int) ∧
            Calls Try.prog 56 #[.slice (cutA x73a x73c 5 1) (9 - 5) (x73c - 5)] ww70 fun ee75 ww76 => ∃ (number74 : Int), ee75 = .returned (.int .u32 number74) ∧
            (-9223372036854775808 : Int) ≤ (i51 + 1) ∧ (i51 + 1) < 9223372036854775808 ∧
            ∃ m77, m77 < m53 ∧ I2 m77 [.int .u32 (if (number74 : Int) > round50 then number74 else round50), .int .i64 (i51 + 1)] ww76) ∧
          (number68 ≠ gen →
            (-9223372036854775808 : Int) ≤ (i51 + 1) ∧ (i51 + 1) < 9223372036854775808 ∧
            ∃ m78, m78 < m53 ∧ I2 m78 [.int .u32 round50, .int .i64 (i51 + 1)] ww70)) ∧
        (x64 ≠ 197 →
          (-9223372036854775808 : Int) ≤ (i51 + 1) ∧ (i51 + 1) < 9223372036854775808 ∧
          ∃ m79, m79 < m53 ∧ I2 m79 [.int .u32 round50, .int .i64 (i51 + 1)] ww54)) ∧
      ((x58n : Int) ≠ 64 →
        (-9223372036854775808 : Int) ≤ (i51 + 1) ∧ (i51 + 1) < 9223372036854775808 ∧
        ∃ m80, m80 < m53 ∧ I2 m80 [.int .u32 round50, .int .i64 (i51 + 1)] ww54)) ∧
    ((l.length : Int) ≤ i51 → End round50 ww54) := by
  generalize hL : l.map BS.bs = L at *
  have hLl : L.length = l.length := by rw [← hL, List.length_map]
  refine ⟨fun m vs w1 => ∃ t2 : Nat, vs = [.int .u32 (roundOf gen (L.take t2) : Nat), .int .i64 t2] ∧ m + t2 = l.length ∧ Ext no w w1, l.length, ⟨0, rfl, rfl, Ext.refl _ _⟩, ?_⟩
  rintro m2 w17 rd i ⟨t2, hi, hm2, X17⟩
  simp only [List.cons.injEq, Value.int.injEq, true_and, and_true] at hi
  obtain ⟨rfl, rfl⟩ := hi
  have h11 := h.no X17
  refine ⟨fun h2 => ?_, fun h2 => ?_⟩
  · have htl : t2 < l.length := by omega
    have gt : l[t2]? = some l[t2] := List.getElem?_eq_getElem htl
    have hmt := List.getElem_mem htl
    have gL : L[t2]? = some (l[t2]).bs := by rw [← hL]; exact get_map_bs gt
    generalize l[t2] = x at *
    obtain ⟨xd, rfl, cx0⟩ := h11.cell gt
    obtain ⟨rx, ex⟩ := h11.oks x hmt
    have hst := roundOf_step (gen := gen) gL
    have cx : w17.cell? (xd.add (Int.toNat (t2 : Int) * 1)) = some (.slice x.a x.bs.length x.c) := by rw [Int.toNat_natCast]; exact cx0
    have nx : ∀ (v : Nat) (w2 : World), Ext no w w2 → v = roundOf gen (L.take (t2 + 1)) → (-9223372036854775808 : Int) ≤ ((t2 : Int) + 1) ∧ ((t2 : Int) + 1) < 9223372036854775808 ∧ ∃ m', m' < m2 ∧ ∃ t3 : Nat, [Value.int .u32 (v : Int), Value.int .i64 ((t2 : Int) + 1)] = [.int .u32 (roundOf gen (L.take t3) : Nat), .int .i64 t3] ∧ m' + t3 = l.length ∧ Ext no w w2 := fun v w2 X hv => ⟨by omega, by omega, m2 - 1, by omega, t2 + 1, by rw [hv]; rfl, by omega, X⟩
    refine ⟨xd, rfl, by omega, by omega, x.a, x.bs.length, x.c, cx, fun h64' => ?_, fun h64' => nx _ _ X17 (by rw [hst]; unfold roundStep; rw [if_neg (by omega)])⟩
    have h64 : x.bs.length = 64 := by omega
    obtain ⟨yd, hyd, cy⟩ := byte_cell rx (i := 0) (by omega)
    refine ⟨by omega, by omega, x.a, x.bs.length, x.c, cx, yd, hyd, by omega, _, cy, fun hmk => ?_, fun hmk => nx _ _ X17 (by rw [hst]; unfold roundStep; rw [if_neg (by omega)])⟩
    refine ⟨by omega, by omega, x.a, x.bs.length, x.c, cx, by omega, ?_⟩
    refine (num_in (i := 1) rx ex (by omega)).mono fun u w28 ⟨he, X28⟩ => ⟨_, he, fun hgen => ?_, fun hgen => nx _ _ (X17.trans X28) (by rw [hst]; unfold roundStep; rw [if_neg (by omega)])⟩
    refine ⟨by omega, by omega, x.a, x.bs.length, x.c, X28.cell cx id, by omega, ?_⟩
    refine (num_in (i := 5) (rx.no X28) ex (by omega)).mono fun u w32 ⟨he, X32⟩ => ⟨_, he, ?_⟩
    rw [max_int]
    exact nx _ _ ((X17.trans X28).trans X32) (by rw [hst]; unfold roundStep; rw [if_pos ⟨h64, by omega, by omega⟩])
  · have htt : t2 = l.length := by omega
    have := hE w17 X17
    rw [htt, List.take_of_length_le (by omega)]
    exact this
theorem rScan_spec (ok : Tags w o) (h : BsAt w a c l) (hl : l.length ≤ 100000) {gen : Nat} (hg : gen < 4294967296) :
    Calls Try.prog 40 #[.slice a l.length c, .int .u32 gen] w (fun z w' => ∃ o' ra rc, ∃ r : List BS, z = .returned (.tuple #[.slice ra r.length rc, .int .i64 (scanK (l.map BS.bs) gen).1.2, .int .u32 (scanK (l.map BS.bs) gen).2]) ∧ Step no w o w' o' ∧ r.map BS.bs = (scanK (l.map BS.bs) gen).1.1 ∧ BsRow w' o' ra rc r) := by
  refine (cachetteref10_Scan.go _ _ _ _ (R := fun z w' => ∃ o' ra rc, ∃ r : List BS, z = (.tuple #[.slice ra r.length rc, .int .i64 (scanK (l.map BS.bs) gen).1.2, .int .u32 (scanK (l.map BS.bs) gen).2]) ∧ Step no w o w' o' ∧ r.map BS.bs = (scanK (l.map BS.bs) gen).1.1 ∧ BsRow w' o' ra rc r) ?_).mono fun z w' ⟨u, he, o', ra, rc, r, hu, hw⟩ => ⟨o', ra, rc, r, by rw [he, hu], hw⟩
  unfold cachetteref10_Scan.N
  generalize hL : l.map BS.bs = L at *
  have hLl : L.length = l.length := by rw [← hL, List.length_map]
  obtain ⟨T, hT⟩ : ∃ T, scanG gen (L.length + 1) L 0 = T := ⟨_, rfl⟩
  refine ⟨fun m vs w1 => ∃ (t : Nat) (o1 : Own) (ra : Option Addr) (rc : Nat) (r : List BS), vs = [.slice ra r.length rc, .int .i64 t] ∧ t ≤ L.length ∧ L.length < m + t ∧ r.length ≤ t ∧ Step no w o w1 o1 ∧ BsL w.heap.size w1 o1 ra rc r ∧ (r.map BS.bs ++ (scanG gen m (L.drop t) r.length).1, t + (scanG gen m (L.drop t) r.length).2) = T, L.length + 1, ⟨0, o, none, 0, [], rfl, Nat.zero_le _, by omega, Nat.le_refl _, Step.refl _ ok, BsL.nil _ _ _, by rw [← hT]; simp⟩, ?_⟩
  rintro m w7 ra rn rc i ⟨t, o7, ra', rc', r, hi, ht, hm, hrt, s7, R7, hG⟩
  simp only [List.cons.injEq, Value.slice.injEq, Value.int.injEq, true_and, and_true] at hi
  obtain ⟨⟨rfl, rfl, rfl⟩, rfl⟩ := hi
  obtain ⟨k, rfl⟩ : ∃ k, m = k + 1 := ⟨m - 1, by omega⟩
  have h7 := h.no (s7.ext.mono fun b ⟨_, _, h⟩ _ => h)
  have fin : ∀ {w2 : World} {o2 : Own} {K : Nat → Prop}, Step K w o w2 o2 → (∀ i, K i → False) → BsL w.heap.size w2 o2 ra rc r → (r.map BS.bs, t) = T → ∃ o' ra' rc', ∃ r' : List BS, Value.tuple #[.slice ra r.length rc, .int .i64 t, .int .u32 (roundOf gen L : Nat)] = (.tuple #[.slice ra' r'.length rc', .int .i64 (scanK L gen).1.2, .int .u32 (scanK L gen).2]) ∧ Step no w o w2 o' ∧ r'.map BS.bs = (scanK L gen).1.1 ∧ BsRow w2 o' ra' rc' r' := fun st hK R2 hfin => by
    have hk : scanK L gen = ((r.map BS.bs, t), roundOf gen L) := by unfold scanK; rw [hT, ← hfin]
    rw [hk]
    exact ⟨_, ra, rc, r, rfl, Step.of_no (st.ext.mono fun b ⟨i, _, h⟩ _ => (hK i h).elim) ok, rfl, R2.give st (Nat.le_refl _)⟩
  refine ⟨fun hg0 => ?_, fun hg0 => ?_⟩
  · have hseq : IntKind.u32.wrap (r.length : Int) = (r.length : Int) := by rw [IntKind.wrap_u32]; omega
    refine ⟨by omega, by omega, ?_⟩
    rw [hseq, Int.toNat_natCast]
    have hdl : l.length - t = (l.drop t).length := by rw [List.length_drop]
    rw [hdl]
    have hrec := stands_spec (h7.cut t) (by rw [List.length_drop]; omega) hg (seq := r.length) (by omega)
    rw [List.map_drop, hL] at hrec
    refine hrec.mono fun u w11 ⟨ba, bc, he, hO, X11⟩ => ⟨_, _, _, _, he, fun hz => ?_, fun hz w36 q X36 hb hq hq' => ?_⟩
    · have hz' : (standK (L.drop t) gen r.length).2 = 0 := by omega
      simp only [scanG, hz', if_true, List.append_nil, Nat.add_zero] at hG
      have s11 := Step.of_no X11 s7.ok
      have s011 := s7.trans s11
      refine rround (h7.no X11) hl gen fun w2 X2 => ?_
      have s2 := Step.of_no X2 s11.ok
      rw [hL]
      exact fin (s011.trans s2) (fun _ h => h.elim) ((R7.step s11 fun _ h => h.elim).step s2 fun _ h => h.elim) hG
    · have hz' : ¬ (standK (L.drop t) gen r.length).2 = 0 := by omega
      have hsl := standK_le (L.drop t) gen r.length
      rw [List.length_drop] at hsl
      simp only [scanG, if_neg hz'] at hG
      have s11 := Step.of_no X11 s7.ok
      have R11 := R7.step s11 fun _ h => h.elim
      have okx : BSok w11 (grow w7 o7) ⟨ba, bc, (standK (L.drop t) gen r.length).1⟩ := ⟨Row.fresh hO.row fun ad ha => (hO.fr ad ha).1, hO.le⟩
      have l7 := s7.size
      obtain ⟨a', c', w39, o39, hr, s39, R39⟩ := R11.push s11.ok (by omega) okx X36 hb hq hq' (by have := X11.size; omega)
      refine ⟨a', _, c', w39, hr, by omega, by omega, k, by omega, t + (standK (L.drop t) gen r.length).2, o39, a', c', _, by rw [Int.natCast_add], by omega, by omega, by rw [List.length_append, List.length_singleton]; omega, (s7.trans s11).trans' s39 fun i hi => .inr hi, R39, ?_⟩
      rw [← hG, List.map_append, List.length_append, List.length_singleton, List.drop_drop]
      simp only [List.map_cons, List.map_nil, List.append_assoc, List.singleton_append, Nat.add_assoc]
  · have hg' : gen = 0 := by omega
    subst hg'
    rw [scanG_zero, List.append_nil, Nat.add_zero] at hG
    refine rround h7 hl 0 fun w2 X2 => ?_
    have s2 := Step.of_no X2 s7.ok
    rw [hL]
    exact fin (s7.trans s2) (fun _ h => h.elim) (R7.step s2 fun _ h => h.elim) hG
end
end Go.Proofs.Ytidijnfkcpbkiaa
