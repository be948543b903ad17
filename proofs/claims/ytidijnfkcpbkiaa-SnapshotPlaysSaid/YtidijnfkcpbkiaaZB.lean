/- Journal: predicates of frames. -/
import Derived.Test.YtidijnfkcpbkiaaZA
set_option linter.unusedVariables false
set_option linter.unusedSimpArgs false
set_option maxRecDepth 20000
set_option maxHeartbeats 2000000
namespace Go.Proofs.Ytidijnfkcpbkiaa
open Go Go.Mx Go.Proofs
/-- journal.Parts -/
def journal_Parts.M (n1 : Int) (R : Value → World → Prop) (w : World) : Prop :=
 bif decide (n1 < 0) then (
 R (.int .i64 0) w) else (
 bif decide (n1 > 4000) then (
 R (.int .i64 0) w) else (
 48 ≠ (0 : Int) ∧ R (.int .i64 (if (1 : Int) > (IntKind.i64.wrap (Int.tdiv (IntKind.i64.wrap ((IntKind.i64.wrap (n1 + 48)) - 1)) 48)) then 1 else (IntKind.i64.wrap (Int.tdiv (IntKind.i64.wrap ((IntKind.i64.wrap (n1 + 48)) - 1)) 48)))) w))

theorem journal_Parts.eq (n1 : Int) (R : Value → World → Prop) (w : World) : mfunc Try.prog [] 28 [.int .i64 n1] R w = journal_Parts.M n1 R w := by kernel_rfl
theorem journal_Parts.ok (n1 : Int) {R : Value → World → Prop} {w : World} (h : journal_Parts.M n1 R w) : Calls Try.prog 28 #[.int .i64 n1] w fun e w' => ∃ v, e = .returned v ∧ R v w' :=
  mfunc_ok follows (H := []) (args := [.int .i64 n1]) (by rw [journal_Parts.eq]; exact h)

def journal_Parts.N (n1 : Int) (R : Value → World → Prop) (w : World) : Prop :=
 (n1 < 0 →
 R (.int .i64 0) w) ∧
 ((0 : Int) ≤ n1 →
 (n1 > 4000 →
 R (.int .i64 0) w) ∧
 (n1 ≤ 4000 →
 R (.int .i64 (if (1 : Int) > (IntKind.i64.wrap (Int.tdiv (IntKind.i64.wrap ((IntKind.i64.wrap (n1 + 48)) - 1)) 48)) then 1 else (IntKind.i64.wrap (Int.tdiv (IntKind.i64.wrap ((IntKind.i64.wrap (n1 + 48)) - 1)) 48)))) w))

theorem journal_Parts.up (n1 : Int) {R : Value → World → Prop} {w : World} (h : journal_Parts.N n1 R w) : journal_Parts.M n1 R w := by
  unfold journal_Parts.M
  unfold journal_Parts.N at h
  refine bif_of (fun c2 => ?_) (fun c2 => ?_)
  · have h := h.1 (of_decide_eq_true c2)
    exact h
  · have h := h.2 (Int.not_lt.1 (of_decide_eq_false c2))
    refine bif_of (fun c3 => ?_) (fun c3 => ?_)
    · have h := h.1 (of_decide_eq_true c3)
      exact h
    · have h := h.2 (Int.not_lt.1 (of_decide_eq_false c3))
      refine ⟨by decide, ?_⟩
      exact h

theorem journal_Parts.go (n1 : Int) {R : Value → World → Prop} {w : World} (h : journal_Parts.N n1 R w) : Calls Try.prog 28 #[.int .i64 n1] w fun e w' => ∃ v, e = .returned v ∧ R v w' := journal_Parts.ok n1 (journal_Parts.up n1 h)
theorem journal_Parts.run (n1 : Int) {V : Value} {Q : World → Prop} {w : World} (h : journal_Parts.N n1 (fun v w' => v = V ∧ Q w') w) : Calls Try.prog 28 #[.int .i64 n1] w (Ret V Q) := (journal_Parts.go n1 h).mono fun e w' ⟨v, he, hv, hq⟩ => ⟨by rw [he, hv], hq⟩

def journal_Parts.F (n1 : Int) : Int :=
  if n1 < 0 then
    0
  else
    if n1 > 4000 then
      0
    else
      (if (1 : Int) > (IntKind.i64.wrap (Int.tdiv (IntKind.i64.wrap ((IntKind.i64.wrap (n1 + 48)) - 1)) 48)) then 1 else (IntKind.i64.wrap (Int.tdiv (IntKind.i64.wrap ((IntKind.i64.wrap (n1 + 48)) - 1)) 48)))
theorem journal_Parts.pure (n1 : Int) {w : World} : Calls Try.prog 28 #[.int .i64 n1] w (Ret (.int .i64 (journal_Parts.F n1)) fun w' => Ext no w w') := by
  refine journal_Parts.run n1 ?_
  unfold journal_Parts.N
  refine ⟨fun c0 => ?_, fun c0 => ?_⟩
  · exact ⟨by unfold journal_Parts.F; rw [if_pos c0], Ext.refl _ _⟩
  · refine ⟨fun c1 => ?_, fun c1 => ?_⟩
    · exact ⟨by unfold journal_Parts.F; rw [if_neg (show ¬ (n1 < 0) from by omega), if_pos c1], Ext.refl _ _⟩
    · exact ⟨by unfold journal_Parts.F; rw [if_neg (show ¬ (n1 < 0) from by omega), if_neg (show ¬ (n1 > 4000) from by omega)], Ext.refl _ _⟩

/-- cachetteref10.Parts -/
def cachetteref10_Parts.M (n1 : Int) (R : Value → World → Prop) (w : World) : Prop :=
 bif decide (n1 < 0) then (
 R (.int .i64 0) w) else (
 bif decide (n1 > 4000) then (
 R (.int .i64 0) w) else (
 bif n1 == 0 then (
 R (.int .i64 1) w) else (
 48 ≠ (0 : Int) ∧ R (.int .i64 (IntKind.i64.wrap (Int.tdiv (IntKind.i64.wrap (n1 + 47)) 48))) w)))

theorem cachetteref10_Parts.eq (n1 : Int) (R : Value → World → Prop) (w : World) : mfunc Try.prog [] 9 [.int .i64 n1] R w = cachetteref10_Parts.M n1 R w := by kernel_rfl
theorem cachetteref10_Parts.ok (n1 : Int) {R : Value → World → Prop} {w : World} (h : cachetteref10_Parts.M n1 R w) : Calls Try.prog 9 #[.int .i64 n1] w fun e w' => ∃ v, e = .returned v ∧ R v w' :=
  mfunc_ok follows (H := []) (args := [.int .i64 n1]) (by rw [cachetteref10_Parts.eq]; exact h)

def cachetteref10_Parts.N (n1 : Int) (R : Value → World → Prop) (w : World) : Prop :=
 (n1 < 0 →
 R (.int .i64 0) w) ∧
 ((0 : Int) ≤ n1 →
 (n1 > 4000 →
 R (.int .i64 0) w) ∧
 (n1 ≤ 4000 →
 (n1 = 0 →
 R (.int .i64 1) w) ∧
 (n1 ≠ 0 →
 R (.int .i64 (IntKind.i64.wrap (Int.tdiv (IntKind.i64.wrap (n1 + 47)) 48))) w)))

theorem cachetteref10_Parts.up (n1 : Int) {R : Value → World → Prop} {w : World} (h : cachetteref10_Parts.N n1 R w) : cachetteref10_Parts.M n1 R w := by
  unfold cachetteref10_Parts.M
  unfold cachetteref10_Parts.N at h
  refine bif_of (fun c2 => ?_) (fun c2 => ?_)
  · have h := h.1 (of_decide_eq_true c2)
    exact h
  · have h := h.2 (Int.not_lt.1 (of_decide_eq_false c2))
    refine bif_of (fun c3 => ?_) (fun c3 => ?_)
    · have h := h.1 (of_decide_eq_true c3)
      exact h
    · have h := h.2 (Int.not_lt.1 (of_decide_eq_false c3))
      refine bif_of (fun c4 => ?_) (fun c4 => ?_)
      · have h := h.1 (beq_t c4)
        exact h
      · have h := h.2 (beq_f c4)
        refine ⟨by decide, ?_⟩
        exact h

theorem cachetteref10_Parts.go (n1 : Int) {R : Value → World → Prop} {w : World} (h : cachetteref10_Parts.N n1 R w) : Calls Try.prog 9 #[.int .i64 n1] w fun e w' => ∃ v, e = .returned v ∧ R v w' := cachetteref10_Parts.ok n1 (cachetteref10_Parts.up n1 h)
theorem cachetteref10_Parts.run (n1 : Int) {V : Value} {Q : World → Prop} {w : World} (h : cachetteref10_Parts.N n1 (fun v w' => v = V ∧ Q w') w) : Calls Try.prog 9 #[.int .i64 n1] w (Ret V Q) := (cachetteref10_Parts.go n1 h).mono fun e w' ⟨v, he, hv, hq⟩ => ⟨by rw [he, hv], hq⟩

def cachetteref10_Parts.F (n1 : Int) : Int :=
  if n1 < 0 then
    0
  else
    if n1 > 4000 then
      0
    else
      if n1 = 0 then
        1
      else
        (IntKind.i64.wrap (Int.tdiv (IntKind.i64.wrap (n1 + 47)) 48))
theorem cachetteref10_Parts.pure (n1 : Int) {w : World} : Calls Try.prog 9 #[.int .i64 n1] w (Ret (.int .i64 (cachetteref10_Parts.F n1)) fun w' => Ext no w w') := by
  refine cachetteref10_Parts.run n1 ?_
  unfold cachetteref10_Parts.N
  refine ⟨fun c0 => ?_, fun c0 => ?_⟩
  · exact ⟨by unfold cachetteref10_Parts.F; rw [if_pos c0], Ext.refl _ _⟩
  · refine ⟨fun c1 => ?_, fun c1 => ?_⟩
    · exact ⟨by unfold cachetteref10_Parts.F; rw [if_neg (show ¬ (n1 < 0) from by omega), if_pos c1], Ext.refl _ _⟩
    · refine ⟨fun c2 => ?_, fun c2 => ?_⟩
      · exact ⟨by unfold cachetteref10_Parts.F; rw [if_neg (show ¬ (n1 < 0) from by omega), if_neg (show ¬ (n1 > 4000) from by omega), if_pos c2], Ext.refl _ _⟩
      · exact ⟨by unfold cachetteref10_Parts.F; rw [if_neg (show ¬ (n1 < 0) from by omega), if_neg (show ¬ (n1 > 4000) from by omega), if_neg c2], Ext.refl _ _⟩

/-- (*journal.sector).put -/
def journal_sector_put.M (s1 : Option Addr) (ac : Option Addr) (ab : Nat) (a9 : Nat) (R : Value → World → Prop) (w : World) : Prop :=
 s1.elim False fun a3 =>
 ∃ (a5 : Option Addr) (a6 : Nat) (a1 : Nat), w.cell? a3 = some (.slice a5 a6 a1) ∧
 ∃ (a4 : Option Addr) (a8 : Nat) (a2 : Nat) (a0 : World), (Builtin.append_ #[98, 30] 98 #[.slice a5 a6 a1, .slice ac ab a9]).run Try.prog w = .ok (.slice a4 a8 a2) a0 ∧
 s1.elim False fun a7 =>
 canStore a0 (a7.add 0) ∧
 thenW (a0.setCell (a7.add 0) (.slice a4 a8 a2)) fun aa =>
 R (.tuple #[]) aa

theorem journal_sector_put.eq (s1 : Option Addr) (l2a : Option Addr) (l2n : Nat) (l2c : Nat) (R : Value → World → Prop) (w : World) : mfunc Try.prog [] 60 [.pointer s1, .slice l2a l2n l2c] R w = journal_sector_put.M s1 l2a l2n l2c R w := by kernel_rfl
theorem journal_sector_put.ok (s1 : Option Addr) (a2 : Option Addr) (a1 : Nat) (a0 : Nat) {R : Value → World → Prop} {w : World} (h : journal_sector_put.M s1 a2 a1 a0 R w) : Calls Try.prog 60 #[.pointer s1, .slice a2 a1 a0] w fun e w' => ∃ v, e = .returned v ∧ R v w' :=
  mfunc_ok follows (H := []) (args := [.pointer s1, .slice a2 a1 a0]) (by rw [journal_sector_put.eq]; exact h)

def journal_sector_put.N (s1 : Option Addr) (ab : Option Addr) (aa : Nat) (a8 : Nat) (R : Value → World → Prop) (w : World) : Prop :=
 ∃ a3 : Addr, s1 = some a3 ∧
 ∃ (a4 : Option Addr) (a6 : Nat) (a5 : Nat), w.cell? a3 = some (.slice a4 a6 a5) ∧
 ∃ (a2 : Option Addr) (a7 : Nat) (a1 : Nat) (a0 : World), (Builtin.append_ #[98, 30] 98 #[.slice a4 a6 a5, .slice ab aa a8]).run Try.prog w = .ok (.slice a2 a7 a1) a0 ∧
 canStore a0 (a3.add 0) ∧
 thenW (a0.setCell (a3.add 0) (.slice a2 a7 a1)) fun a9 =>
 R (.tuple #[]) a9

theorem journal_sector_put.up (s1 : Option Addr) (a4 : Option Addr) (a1 : Nat) (a0 : Nat) {R : Value → World → Prop} {w : World} (h : journal_sector_put.N s1 a4 a1 a0 R w) : journal_sector_put.M s1 a4 a1 a0 R w := by
  unfold journal_sector_put.M
  unfold journal_sector_put.N at h
  obtain ⟨a3, a2, h⟩ := h
  refine elim_some a2 ?_
  obtain ⟨a8, ab, a9, a5, h⟩ := h
  refine ⟨a8, ab, a9, a5, ?_⟩
  obtain ⟨a7, ac, a6, aa, hr, h⟩ := h
  refine ⟨a7, ac, a6, aa, hr, ?_⟩
  refine elim_some a2 ?_
  obtain ⟨hcs, h⟩ := h
  refine ⟨hcs, thenW_in fun ad e8 => ?_⟩
  replace h := thenW_out h e8
  exact h

theorem journal_sector_put.go (s1 : Option Addr) (a2 : Option Addr) (a1 : Nat) (a0 : Nat) {R : Value → World → Prop} {w : World} (h : journal_sector_put.N s1 a2 a1 a0 R w) : Calls Try.prog 60 #[.pointer s1, .slice a2 a1 a0] w fun e w' => ∃ v, e = .returned v ∧ R v w' := journal_sector_put.ok s1 a2 a1 a0 (journal_sector_put.up s1 a2 a1 a0 h)
theorem journal_sector_put.run (s1 : Option Addr) (a2 : Option Addr) (a1 : Nat) (a0 : Nat) {V : Value} {Q : World → Prop} {w : World} (h : journal_sector_put.N s1 a2 a1 a0 (fun v w' => v = V ∧ Q w') w) : Calls Try.prog 60 #[.pointer s1, .slice a2 a1 a0] w (Ret V Q) := (journal_sector_put.go s1 a2 a1 a0 h).mono fun e w' ⟨v, he, hv, hq⟩ => ⟨by rw [he, hv], hq⟩

/-- (*journal.sector).number -/
def journal_sector_number.M (s1 : Option Addr) (n2 : Int) (R : Value → World → Prop) (w : World) : Prop :=
 0 ≤ (24 : Int) ∧
 0 ≤ (16 : Int) ∧
 0 ≤ (8 : Int) ∧
 thenW (w.alloc (.cells #[.int .u8 (IntKind.u8.wrap (Int.fdiv n2 (2 ^ (min (Int.toNat 24) (IntKind.bits .u32))))), .int .u8 (IntKind.u8.wrap (Int.fdiv n2 (2 ^ (min (Int.toNat 16) (IntKind.bits .u32))))), .int .u8 (IntKind.u8.wrap (Int.fdiv n2 (2 ^ (min (Int.toNat 8) (IntKind.bits .u32))))), .int .u8 (IntKind.u8.wrap n2)] 5)) fun a0 =>
 Calls Try.prog 60 #[.pointer s1, .slice (some (blk w.heap.size)) 4 4] a0 fun a1 a2 => a1 = .returned (.tuple #[]) ∧
 R (.tuple #[]) a2

theorem journal_sector_number.eq (s1 : Option Addr) (n2 : Int) (R : Value → World → Prop) (w : World) : mfunc Try.prog [] 61 [.pointer s1, .int .u32 n2] R w = journal_sector_number.M s1 n2 R w := by kernel_rfl
theorem journal_sector_number.ok (s1 : Option Addr) (n2 : Int) {R : Value → World → Prop} {w : World} (h : journal_sector_number.M s1 n2 R w) : Calls Try.prog 61 #[.pointer s1, .int .u32 n2] w fun e w' => ∃ v, e = .returned v ∧ R v w' :=
  mfunc_ok follows (H := []) (args := [.pointer s1, .int .u32 n2]) (by rw [journal_sector_number.eq]; exact h)

def journal_sector_number.N (s1 : Option Addr) (n2 : Int) (R : Value → World → Prop) (w : World) : Prop :=
 ∀ (a0 : World) (q4 : Nat), Ext no w a0 → Blk a0 q4 5 [.int .u8 (IntKind.u8.wrap (n2 / 16777216)), .int .u8 (IntKind.u8.wrap (n2 / 65536)), .int .u8 (IntKind.u8.wrap (n2 / 256)), .int .u8 (IntKind.u8.wrap n2)] → w.heap.size ≤ q4 → q4 < a0.heap.size →
 Calls Try.prog 60 #[.pointer s1, .slice (some (blk q4)) 4 4] a0 fun a2 a1 => a2 = .returned (.tuple #[]) ∧
 R (.tuple #[]) a1

theorem journal_sector_number.up (s1 : Option Addr) (n2 : Int) {R : Value → World → Prop} {w : World} (h : journal_sector_number.N s1 n2 R w) : journal_sector_number.M s1 n2 R w := by
  unfold journal_sector_number.M
  unfold journal_sector_number.N at h
  refine ⟨by decide, ?_⟩
  try rw [show (2 ^ (min (Int.toNat 24) (IntKind.bits .u32)) : Int) = 16777216 from rfl]
  try rw [Int.fdiv_eq_ediv_of_nonneg n2 (by decide : (0 : Int) ≤ 16777216)]
  refine ⟨by decide, ?_⟩
  try rw [show (2 ^ (min (Int.toNat 16) (IntKind.bits .u32)) : Int) = 65536 from rfl]
  try rw [Int.fdiv_eq_ediv_of_nonneg n2 (by decide : (0 : Int) ≤ 65536)]
  refine ⟨by decide, ?_⟩
  try rw [show (2 ^ (min (Int.toNat 8) (IntKind.bits .u32)) : Int) = 256 from rfl]
  try rw [Int.fdiv_eq_ediv_of_nonneg n2 (by decide : (0 : Int) ≤ 256)]
  refine thenW_in fun a0 e3 => ?_
  have h := h a0 w.heap.size ((Ext.refl no w).x_alloc e3) (Blk.of_new e3) ((Ext.refl no w)).size (size_lt_alloc e3)
  refine h.mono fun a2 a1 h => ?_
  obtain ⟨he, h⟩ := h
  refine ⟨he, ?_⟩
  exact h

theorem journal_sector_number.go (s1 : Option Addr) (n2 : Int) {R : Value → World → Prop} {w : World} (h : journal_sector_number.N s1 n2 R w) : Calls Try.prog 61 #[.pointer s1, .int .u32 n2] w fun e w' => ∃ v, e = .returned v ∧ R v w' := journal_sector_number.ok s1 n2 (journal_sector_number.up s1 n2 h)
theorem journal_sector_number.run (s1 : Option Addr) (n2 : Int) {V : Value} {Q : World → Prop} {w : World} (h : journal_sector_number.N s1 n2 (fun v w' => v = V ∧ Q w') w) : Calls Try.prog 61 #[.pointer s1, .int .u32 n2] w (Ret V Q) := (journal_sector_number.go s1 n2 h).mono fun e w' ⟨v, he, hv, hq⟩ => ⟨by rw [he, hv], hq⟩

/-- (journal.sector).at -/
def journal_sector_at.M (a1 : Option Addr) (a4 : Nat) (a3 : Nat) (i2 : Int) (R : Value → World → Prop) (w : World) : Prop :=
 (0 : Int) ≤ ((IntKind.i64.wrap (i2 + 4)) : Int) ∧ ((IntKind.i64.wrap (i2 + 4)) : Int) ≤ (a3 : Int) ∧ (0 : Int) ≤ (i2 : Int) ∧ (i2 : Int) ≤ ((IntKind.i64.wrap (i2 + 4)) : Int) ∧
 ∃ (I0 : Nat → List Value → World → Prop) (m5 : Nat), I0 m5 [.int .u32 0, .int .i64 0] w ∧ ∀ (m6 : Nat) (a0 : World) (n3 : Int) (t4 : Int), I0 m6 [.int .u32 n3, .int .i64 t4] a0 →
 bif decide (t4 < (((Int.toNat (IntKind.i64.wrap (i2 + 4))) - (Int.toNat i2) : Nat) : Int)) then (
 (if a3 = Int.toNat i2 then a1 else Option.map (fun z : Addr => z.add ((Int.toNat i2) * 1)) a1).elim False fun a8 =>
 0 ≤ (t4 : Int) ∧ (t4 : Int) < (((Int.toNat (IntKind.i64.wrap (i2 + 4))) - (Int.toNat i2) : Nat) : Int) ∧
 ∃ (x9 : Int), a0.cell? (a8.add (Int.toNat t4 * 1)) = some (.int .u8 x9) ∧
 0 ≤ (8 : Int) ∧
 ∃ a2, a2 < m6 ∧ I0 a2 [.int .u32 (IntKind.u32.wrap ((BitVec.ofInt (IntKind.bits .u32) (IntKind.u32.wrap (n3 * 2 ^ (min (Int.toNat 8) (IntKind.bits .u32)))) ||| BitVec.ofInt (IntKind.bits .u32) (IntKind.u32.wrap x9)).toNat)), .int .i64 (IntKind.i64.wrap (t4 + 1))] a0) else (
 R (.int .u32 n3) a0)

theorem journal_sector_at.eq (s1a : Option Addr) (s1n : Nat) (s1c : Nat) (i2 : Int) (R : Value → World → Prop) (w : World) : mfunc Try.prog [(0, [11, 12], [(4, (.one (.int .u32))), (13, (.one (.int .i64)))])] 59 [.slice s1a s1n s1c, .int .i64 i2] R w = journal_sector_at.M s1a s1n s1c i2 R w := by kernel_rfl
theorem journal_sector_at.ok (a1 : Option Addr) (a2 : Nat) (a0 : Nat) (i2 : Int) {R : Value → World → Prop} {w : World} (h : journal_sector_at.M a1 a2 a0 i2 R w) : Calls Try.prog 59 #[.slice a1 a2 a0, .int .i64 i2] w fun e w' => ∃ v, e = .returned v ∧ R v w' :=
  mfunc_ok follows (H := [(0, [11, 12], [(4, (.one (.int .u32))), (13, (.one (.int .i64)))])]) (args := [.slice a1 a2 a0, .int .i64 i2]) (by rw [journal_sector_at.eq]; exact h)

def journal_sector_at.N (a4 : Option Addr) (a5 : Nat) (a3 : Nat) (i2 : Int) (R : Value → World → Prop) (w : World) : Prop :=
 (-9223372036854775808 : Int) ≤ (i2 + 4) ∧ (i2 + 4) < 9223372036854775808 ∧
 (0 : Int) ≤ ((i2 + 4) : Int) ∧ ((i2 + 4) : Int) ≤ (a3 : Int) ∧ (0 : Int) ≤ (i2 : Int) ∧ (i2 : Int) ≤ ((i2 + 4) : Int) ∧ 
 ∃ (I0 : Nat → List Value → World → Prop) (m5 : Nat), I0 m5 [.int .u32 0, .int .i64 0] w ∧ ∀ (m6 : Nat) (a0 : World) (n3 : Int) (t4 : Int), I0 m6 [.int .u32 n3, .int .i64 t4] a0 →
 (t4 < (((Int.toNat (i2 + 4)) - (Int.toNat i2) : Nat) : Int) →
 ∃ a9 : Addr, cutA a4 a3 (Int.toNat i2) 1 = some a9 ∧
 0 ≤ (t4 : Int) ∧ (t4 : Int) < (((Int.toNat (i2 + 4)) - (Int.toNat i2) : Nat) : Int) ∧
 ∃ (a1 : Int), a0.cell? (a9.add (Int.toNat t4 * 1)) = some (.int .u8 a1) ∧
 (-9223372036854775808 : Int) ≤ (t4 + 1) ∧ (t4 + 1) < 9223372036854775808 ∧
 ∃ a2, a2 < m6 ∧ I0 a2 [.int .u32 (IntKind.u32.wrap ((BitVec.ofInt (IntKind.bits .u32) (IntKind.u32.wrap (n3 * 256)) ||| BitVec.ofInt (IntKind.bits .u32) (IntKind.u32.wrap a1)).toNat)), .int .i64 (t4 + 1)] a0) ∧
 ((((Int.toNat (i2 + 4)) - (Int.toNat i2) : Nat) : Int) ≤ t4 →
 R (.int .u32 n3) a0)

theorem journal_sector_at.up (a5 : Option Addr) (a6 : Nat) (a7 : Nat) (i2 : Int) {R : Value → World → Prop} {w : World} (h : journal_sector_at.N a5 a6 a7 i2 R w) : journal_sector_at.M a5 a6 a7 i2 R w := by
  unfold journal_sector_at.M
  unfold journal_sector_at.N at h
  obtain ⟨a0, a3, h⟩ := h
  try rw [w64 a0 a3]
  obtain ⟨ad, a2, a4, ac, h⟩ := h
  refine ⟨ad, a2, a4, ac, ?_⟩
  obtain ⟨I0, m5, h0, h⟩ := h
  refine ⟨I0, m5, h0, fun m6 ae n3 t4 hI => ?_⟩
  have h := h m6 ae n3 t4 hI
  refine bif_of (fun c8 => ?_) (fun c8 => ?_)
  · have h := h.1 (of_decide_eq_true c8)
    obtain ⟨a9, a8, h⟩ := h
    refine elim_some a8 ?_
    obtain ⟨a2, a4, h⟩ := h
    refine ⟨a2, a4, ?_⟩
    obtain ⟨aa, a1, h⟩ := h
    refine ⟨aa, a1, ?_⟩
    refine ⟨by decide, ?_⟩
    try rw [show (2 ^ (min (Int.toNat 8) (IntKind.bits .u32)) : Int) = 256 from rfl]
    obtain ⟨a0, a3, h⟩ := h
    try rw [w64 a0 a3]
    obtain ⟨ab, hk, h⟩ := h
    exact ⟨ab, hk, h⟩
  · have h := h.2 (Int.not_lt.1 (of_decide_eq_false c8))
    exact h

theorem journal_sector_at.go (a1 : Option Addr) (a2 : Nat) (a0 : Nat) (i2 : Int) {R : Value → World → Prop} {w : World} (h : journal_sector_at.N a1 a2 a0 i2 R w) : Calls Try.prog 59 #[.slice a1 a2 a0, .int .i64 i2] w fun e w' => ∃ v, e = .returned v ∧ R v w' := journal_sector_at.ok a1 a2 a0 i2 (journal_sector_at.up a1 a2 a0 i2 h)
theorem journal_sector_at.run (a1 : Option Addr) (a2 : Nat) (a0 : Nat) (i2 : Int) {V : Value} {Q : World → Prop} {w : World} (h : journal_sector_at.N a1 a2 a0 i2 (fun v w' => v = V ∧ Q w') w) : Calls Try.prog 59 #[.slice a1 a2 a0, .int .i64 i2] w (Ret V Q) := (journal_sector_at.go a1 a2 a0 i2 h).mono fun e w' ⟨v, he, hv, hq⟩ => ⟨by rw [he, hv], hq⟩

/-- (journal.sector).is -/
def journal_sector_is.M (a1 : Option Addr) (a0 : Nat) (a3 : Nat) (R : Value → World → Prop) (w : World) : Prop :=
 bif (a0 : Int) == 64 then (
 a1.elim False fun a2 =>
 0 ≤ (0 : Int) ∧ (0 : Int) < (a0 : Int) ∧
 ∃ (x3 : Int), w.cell? (a2.add (Int.toNat 0 * 1)) = some (.int .u8 x3) ∧
 R (.bool (x3 == 197)) w) else (
 R (.bool false) w)

theorem journal_sector_is.eq (s1a : Option Addr) (s1n : Nat) (s1c : Nat) (R : Value → World → Prop) (w : World) : mfunc Try.prog [] 58 [.slice s1a s1n s1c] R w = journal_sector_is.M s1a s1n s1c R w := by kernel_rfl
theorem journal_sector_is.ok (a0 : Option Addr) (a1 : Nat) (a2 : Nat) {R : Value → World → Prop} {w : World} (h : journal_sector_is.M a0 a1 a2 R w) : Calls Try.prog 58 #[.slice a0 a1 a2] w fun e w' => ∃ v, e = .returned v ∧ R v w' :=
  mfunc_ok follows (H := []) (args := [.slice a0 a1 a2]) (by rw [journal_sector_is.eq]; exact h)

def journal_sector_is.N (a1 : Option Addr) (a0 : Nat) (a2 : Nat) (R : Value → World → Prop) (w : World) : Prop :=
 ((a0 : Int) = 64 →
 ∃ a3 : Addr, a1 = some a3 ∧
 (0 : Int) < (a0 : Int) ∧
 ∃ (x5 : Int), w.cell? (a3.add (Int.toNat 0 * 1)) = some (.int .u8 x5) ∧
 R (.bool (x5 == 197)) w) ∧
 ((a0 : Int) ≠ 64 →
 R (.bool false) w)

theorem journal_sector_is.up (a0 : Option Addr) (a1 : Nat) (a2 : Nat) {R : Value → World → Prop} {w : World} (h : journal_sector_is.N a0 a1 a2 R w) : journal_sector_is.M a0 a1 a2 R w := by
  unfold journal_sector_is.M
  unfold journal_sector_is.N at h
  refine bif_of (fun c2 => ?_) (fun c2 => ?_)
  · have h := h.1 (beq_t c2)
    obtain ⟨a3, a5, h⟩ := h
    refine elim_some a5 ?_
    obtain ⟨a6, h⟩ := h
    refine ⟨by decide, a6, ?_⟩
    obtain ⟨x5, a4, h⟩ := h
    refine ⟨x5, a4, ?_⟩
    exact h
  · have h := h.2 (beq_f c2)
    exact h

theorem journal_sector_is.go (a0 : Option Addr) (a1 : Nat) (a2 : Nat) {R : Value → World → Prop} {w : World} (h : journal_sector_is.N a0 a1 a2 R w) : Calls Try.prog 58 #[.slice a0 a1 a2] w fun e w' => ∃ v, e = .returned v ∧ R v w' := journal_sector_is.ok a0 a1 a2 (journal_sector_is.up a0 a1 a2 h)
theorem journal_sector_is.run (a0 : Option Addr) (a1 : Nat) (a2 : Nat) {V : Value} {Q : World → Prop} {w : World} (h : journal_sector_is.N a0 a1 a2 (fun v w' => v = V ∧ Q w') w) : Calls Try.prog 58 #[.slice a0 a1 a2] w (Ret V Q) := (journal_sector_is.go a0 a1 a2 h).mono fun e w' ⟨v, he, hv, hq⟩ => ⟨by rw [he, hv], hq⟩

/-- journal.Frame -/
def journal_Frame.M (aj : Int) (a5 : Int) (an : Int) (b6 : Option Addr) (a6 : Nat) (b4 : Nat) (R : Value → World → Prop) (w : World) : Prop :=
 Calls Try.prog 28 #[.int .i64 (a6 : Int)] w fun b9 am => ∃ (a1 : Int), b9 = .returned (.int .i64 a1) ∧
 bif a1 == 0 then (
 R (.tuple #[.slice none 0 0, .int .i64 3]) am) else (
 bif aj == 0 then (
 R (.tuple #[.slice none 0 0, .int .i64 1]) am) else (
 bif a5 == 0 then (
 R (.tuple #[.slice none 0 0, .int .i64 1]) am) else (
 ∃ (I1 : Nat → List Value → World → Prop) (b8 : Nat), I1 b8 [.slice none 0 0, .int .i64 0] am ∧ ∀ (b5 : Nat) (a8 : World) (a4 : Option Addr) (a2 : Nat) (a3 : Nat) (t9 : Int), I1 b5 [.slice a4 a2 a3, .int .i64 t9] a8 →
 bif decide (t9 < a1) then (
 (0 : Int) ≤ ((if ((a6 : Int) : Int) < (IntKind.i64.wrap ((48 : Int) * (IntKind.i64.wrap (t9 + 1)))) then (a6 : Int) else (IntKind.i64.wrap ((48 : Int) * (IntKind.i64.wrap (t9 + 1))))) : Int) ∧ ((if ((a6 : Int) : Int) < (IntKind.i64.wrap ((48 : Int) * (IntKind.i64.wrap (t9 + 1)))) then (a6 : Int) else (IntKind.i64.wrap ((48 : Int) * (IntKind.i64.wrap (t9 + 1))))) : Int) ≤ (b4 : Int) ∧ (0 : Int) ≤ ((IntKind.i64.wrap ((48 : Int) * t9)) : Int) ∧ ((IntKind.i64.wrap ((48 : Int) * t9)) : Int) ≤ ((if ((a6 : Int) : Int) < (IntKind.i64.wrap ((48 : Int) * (IntKind.i64.wrap (t9 + 1)))) then (a6 : Int) else (IntKind.i64.wrap ((48 : Int) * (IntKind.i64.wrap (t9 + 1))))) : Int) ∧
 ∃ (ab : Option Addr) (ac : Nat) (ag : Nat) (a0 : World), (Instr.makeSlice 98 (.int .i64 0) (.int .i64 64)).run Try.prog a8 = .ok (.slice ab ac ag) a0 ∧
 thenW (a0.alloc (.cells #[.slice none 0 0] 98)) fun ai =>
 canStore ai ((blk a0.heap.size).add 0) ∧
 thenW (ai.setCell ((blk a0.heap.size).add 0) (.slice ab ac ag)) fun al =>
 thenW (al.alloc (.cells #[.int .u8 197] 5)) fun aq =>
 Calls Try.prog 60 #[.pointer (some (blk a0.heap.size)), .slice (some (blk al.heap.size)) 1 1] aq fun b1 b0 => b1 = .returned (.tuple #[]) ∧
 Calls Try.prog 61 #[.pointer (some (blk a0.heap.size)), .int .u32 aj] b0 fun au ap => au = .returned (.tuple #[]) ∧
 Calls Try.prog 61 #[.pointer (some (blk a0.heap.size)), .int .u32 a5] ap fun ao b2 => ao = .returned (.tuple #[]) ∧
 Calls Try.prog 61 #[.pointer (some (blk a0.heap.size)), .int .u32 an] b2 fun aw ak => aw = .returned (.tuple #[]) ∧
 thenW (ak.alloc (.cells #[.int .u8 (IntKind.u8.wrap t9), .int .u8 (IntKind.u8.wrap a1), .int .u8 (IntKind.u8.wrap (((Int.toNat (if ((a6 : Int) : Int) < (IntKind.i64.wrap ((48 : Int) * (IntKind.i64.wrap (t9 + 1)))) then (a6 : Int) else (IntKind.i64.wrap ((48 : Int) * (IntKind.i64.wrap (t9 + 1)))))) - (Int.toNat (IntKind.i64.wrap ((48 : Int) * t9))) : Nat) : Int))] 5)) fun av =>
 Calls Try.prog 60 #[.pointer (some (blk a0.heap.size)), .slice (some (blk ak.heap.size)) 3 3] av fun b3 ax => b3 = .returned (.tuple #[]) ∧
 Calls Try.prog 60 #[.pointer (some (blk a0.heap.size)), .slice (if b4 = Int.toNat (IntKind.i64.wrap ((48 : Int) * t9)) then b6 else Option.map (fun z : Addr => z.add ((Int.toNat (IntKind.i64.wrap ((48 : Int) * t9))) * 1)) b6) ((Int.toNat (if ((a6 : Int) : Int) < (IntKind.i64.wrap ((48 : Int) * (IntKind.i64.wrap (t9 + 1)))) then (a6 : Int) else (IntKind.i64.wrap ((48 : Int) * (IntKind.i64.wrap (t9 + 1)))))) - (Int.toNat (IntKind.i64.wrap ((48 : Int) * t9)))) (b4 - (Int.toNat (IntKind.i64.wrap ((48 : Int) * t9))))] ax fun ar aa => ar = .returned (.tuple #[]) ∧
 ∃ (a9 : Option Addr) (az : Nat) (a7 : Nat), aa.cell? (blk a0.heap.size) = some (.slice a9 az a7) ∧
 (0 : Int) ≤ (64 : Int) ∧ (64 : Int) ≤ (a7 : Int) ∧
 thenW (aa.alloc (.cells #[.slice (if a7 = 0 then a9 else Option.map (fun z : Addr => z.add (0 * 1)) a9) ((Int.toNat 64) - 0) (a7 - 0)] 30)) fun ay =>
 ∃ (ae : Option Addr) (ad : Nat) (ah : Nat) (af : World), (Builtin.append_ #[31, 31] 31 #[.slice a4 a2 a3, .slice (some (blk aa.heap.size)) 1 1]).run Try.prog ay = .ok (.slice ae ad ah) af ∧
 ∃ b7, b7 < b5 ∧ I1 b7 [.slice ae ad ah, .int .i64 (IntKind.i64.wrap (t9 + 1))] af) else (
 R (.tuple #[.slice a4 a2 a3, .int .i64 0]) a8))))

theorem journal_Frame.eq (gen1 : Int) (round2 : Int) (seq3 : Int) (b4a : Option Addr) (b4n : Nat) (b4c : Nat) (R : Value → World → Prop) (w : World) : mfunc Try.prog [(1, [0, 1, 2, 3, 10, 28], [(8, (.one .slice)), (29, (.one (.int .i64)))])] 53 [.int .u32 gen1, .int .u32 round2, .int .u32 seq3, .slice b4a b4n b4c] R w = journal_Frame.M gen1 round2 seq3 b4a b4n b4c R w := by kernel_rfl
theorem journal_Frame.ok (a2 : Int) (a0 : Int) (a1 : Int) (a4 : Option Addr) (a3 : Nat) (a5 : Nat) {R : Value → World → Prop} {w : World} (h : journal_Frame.M a2 a0 a1 a4 a3 a5 R w) : Calls Try.prog 53 #[.int .u32 a2, .int .u32 a0, .int .u32 a1, .slice a4 a3 a5] w fun e w' => ∃ v, e = .returned v ∧ R v w' :=
  mfunc_ok follows (H := [(1, [0, 1, 2, 3, 10, 28], [(8, (.one .slice)), (29, (.one (.int .i64)))])]) (args := [.int .u32 a2, .int .u32 a0, .int .u32 a1, .slice a4 a3 a5]) (by rw [journal_Frame.eq]; exact h)

def journal_Frame.N (ae : Int) (a1 : Int) (ax : Int) (bc : Option Addr) (a5 : Nat) (b8 : Nat) (R : Value → World → Prop) (w : World) : Prop :=
 ((journal_Parts.F (a5 : Int)) = 0 →
 ∀ (a8 : World), Ext no w a8 →
 R (.tuple #[.slice none 0 0, .int .i64 3]) a8) ∧
 ((journal_Parts.F (a5 : Int)) ≠ 0 →
 (ae = 0 →
 ∀ (a8 : World), Ext no w a8 →
 R (.tuple #[.slice none 0 0, .int .i64 1]) a8) ∧
 (ae ≠ 0 →
 (a1 = 0 →
 ∀ (a8 : World), Ext no w a8 →
 R (.tuple #[.slice none 0 0, .int .i64 1]) a8) ∧
 (a1 ≠ 0 →
 ∀ (a8 : World), Ext no w a8 →
 ∃ (I1 : Nat → List Value → World → Prop) (bb : Nat), I1 bb [.slice none 0 0, .int .i64 0] a8 ∧ ∀ (ba : Nat) (ac : World) (a4 : Option Addr) (a3 : Nat) (a2 : Nat) (a0 : Int), I1 ba [.slice a4 a3 a2, .int .i64 a0] ac →
 (a0 < (journal_Parts.F (a5 : Int)) →
 (-9223372036854775808 : Int) ≤ ((48 : Int) * a0) ∧ ((48 : Int) * a0) < 9223372036854775808 ∧
 (-9223372036854775808 : Int) ≤ (a0 + 1) ∧ (a0 + 1) < 9223372036854775808 ∧
 (-9223372036854775808 : Int) ≤ ((48 : Int) * (a0 + 1)) ∧ ((48 : Int) * (a0 + 1)) < 9223372036854775808 ∧
 (0 : Int) ≤ ((if ((a5 : Int) : Int) < ((48 : Int) * (a0 + 1)) then (a5 : Int) else ((48 : Int) * (a0 + 1))) : Int) ∧ ((if ((a5 : Int) : Int) < ((48 : Int) * (a0 + 1)) then (a5 : Int) else ((48 : Int) * (a0 + 1))) : Int) ≤ (b8 : Int) ∧ (0 : Int) ≤ (((48 : Int) * a0) : Int) ∧ (((48 : Int) * a0) : Int) ≤ ((if ((a5 : Int) : Int) < ((48 : Int) * (a0 + 1)) then (a5 : Int) else ((48 : Int) * (a0 + 1))) : Int) ∧ 
 ∃ (am : Option Addr) (aq : Nat) (ao : Nat) (ag : World), (Instr.makeSlice 98 (.int .i64 0) (.int .i64 64)).run Try.prog ac = .ok (.slice am aq ao) ag ∧
 ∀ (a7 : World) (a6 : Nat), Ext no ag a7 → Blk a7 a6 98 [.slice none 0 0] → ag.heap.size ≤ a6 → a6 < a7.heap.size →
 canStore a7 ((blk a6).add 0) ∧
 thenW (a7.setCell ((blk a6).add 0) (.slice am aq ao)) fun ap =>
 ∀ (ab : World) (au : Nat), Ext no ap ab → Blk ab au 5 [.int .u8 197] → ap.heap.size ≤ au → au < ab.heap.size →
 Calls Try.prog 60 #[.pointer (some (blk a6)), .slice (some (blk au)) 1 1] ab fun ay b7 => ay = .returned (.tuple #[]) ∧
 Calls Try.prog 61 #[.pointer (some (blk a6)), .int .u32 ae] b7 fun b2 b5 => b2 = .returned (.tuple #[]) ∧
 Calls Try.prog 61 #[.pointer (some (blk a6)), .int .u32 a1] b5 fun b4 b3 => b4 = .returned (.tuple #[]) ∧
 Calls Try.prog 61 #[.pointer (some (blk a6)), .int .u32 ax] b3 fun b1 al => b1 = .returned (.tuple #[]) ∧
 ∀ (aa : World) (ar : Nat), Ext no al aa → Blk aa ar 5 [.int .u8 (IntKind.u8.wrap a0), .int .u8 (IntKind.u8.wrap (journal_Parts.F (a5 : Int))), .int .u8 (IntKind.u8.wrap (((Int.toNat (if ((a5 : Int) : Int) < ((48 : Int) * (a0 + 1)) then (a5 : Int) else ((48 : Int) * (a0 + 1)))) - (Int.toNat ((48 : Int) * a0)) : Nat) : Int))] → al.heap.size ≤ ar → ar < aa.heap.size →
 Calls Try.prog 60 #[.pointer (some (blk a6)), .slice (some (blk ar)) 3 3] aa fun b6 aw => b6 = .returned (.tuple #[]) ∧
 Calls Try.prog 60 #[.pointer (some (blk a6)), .slice (cutA bc b8 (Int.toNat ((48 : Int) * a0)) 1) ((Int.toNat (if ((a5 : Int) : Int) < ((48 : Int) * (a0 + 1)) then (a5 : Int) else ((48 : Int) * (a0 + 1)))) - (Int.toNat ((48 : Int) * a0))) (b8 - (Int.toNat ((48 : Int) * a0)))] aw fun b0 af => b0 = .returned (.tuple #[]) ∧
 ∃ (aj : Option Addr) (az : Nat) (ad : Nat), af.cell? (blk a6) = some (.slice aj az ad) ∧
 (64 : Int) ≤ (ad : Int) ∧ 
 ∀ (a9 : World) (av : Nat), Ext no af a9 → Blk a9 av 30 [.slice aj 64 ad] → af.heap.size ≤ av → av < a9.heap.size →
 ∃ (an : Option Addr) (ah : Nat) (ai : Nat) (ak : World), (Builtin.append_ #[31, 31] 31 #[.slice a4 a3 a2, .slice (some (blk av)) 1 1]).run Try.prog a9 = .ok (.slice an ah ai) ak ∧
 (-9223372036854775808 : Int) ≤ (a0 + 1) ∧ (a0 + 1) < 9223372036854775808 ∧
 ∃ b9, b9 < ba ∧ I1 b9 [.slice an ah ai, .int .i64 (a0 + 1)] ak) ∧
 ((journal_Parts.F (a5 : Int)) ≤ a0 →
 R (.tuple #[.slice a4 a3 a2, .int .i64 0]) ac))))

theorem journal_Frame.up (ab : Int) (a0 : Int) (aa : Int) (b3 : Option Addr) (ad : Nat) (b2 : Nat) {R : Value → World → Prop} {w : World} (h : journal_Frame.N ab a0 aa b3 ad b2 R w) : journal_Frame.M ab a0 aa b3 ad b2 R w := by
  unfold journal_Frame.M
  unfold journal_Frame.N at h
  refine (journal_Parts.pure (ad : Int)).mono fun ee ww5 ⟨he, hxx⟩ => ⟨(journal_Parts.F (ad : Int)), he, ?_⟩
  have ac := (Ext.refl no w).trans hxx
  refine bif_of (fun c6 => ?_) (fun c6 => ?_)
  · have h := h.1 (beq_t c6)
    have h := h ww5 ac
    exact h
  · have h := h.2 (beq_f c6)
    refine bif_of (fun c7 => ?_) (fun c7 => ?_)
    · have h := h.1 (beq_t c7)
      have h := h ww5 ac
      exact h
    · have h := h.2 (beq_f c7)
      refine bif_of (fun c8 => ?_) (fun c8 => ?_)
      · have h := h.1 (beq_t c8)
        have h := h ww5 ac
        exact h
      · have h := h.2 (beq_f c8)
        have h := h ww5 ac
        obtain ⟨I1, b9, h0, h⟩ := h
        refine ⟨I1, b9, h0, fun bi aj a6 a5 a2 bg hI => ?_⟩
        have h := h bi aj a6 a5 a2 bg hI
        refine bif_of (fun b1 => ?_) (fun b1 => ?_)
        · have h := h.1 (of_decide_eq_true b1)
          obtain ⟨a9, a3, h⟩ := h
          try rw [w64 a9 a3]
          obtain ⟨a9, a3, h⟩ := h
          try rw [w64 a9 a3]
          obtain ⟨a9, a3, h⟩ := h
          try rw [w64 a9 a3]
          obtain ⟨b7, ay, be, bc, h⟩ := h
          refine ⟨b7, ay, be, bc, ?_⟩
          obtain ⟨an, az, ar, a1, hr, h⟩ := h
          refine ⟨an, az, ar, a1, hr, ?_⟩
          refine thenW_in fun ah aw => ?_
          have h := h ah a1.heap.size ((Ext.refl no a1).x_alloc aw) (Blk.of_new aw) ((Ext.refl no a1)).size (size_lt_alloc aw)
          obtain ⟨hcs, h⟩ := h
          refine ⟨hcs, thenW_in fun a7 bb => ?_⟩
          replace h := thenW_out h bb
          refine thenW_in fun av ax => ?_
          have h := h av a7.heap.size ((Ext.refl no a7).x_alloc ax) (Blk.of_new ax) ((Ext.refl no a7)).size (size_lt_alloc ax)
          refine h.mono fun b5 bl h => ?_
          obtain ⟨he, h⟩ := h
          refine ⟨he, ?_⟩
          refine h.mono fun ba bj h => ?_
          obtain ⟨he, h⟩ := h
          refine ⟨he, ?_⟩
          refine h.mono fun bh bf h => ?_
          obtain ⟨he, h⟩ := h
          refine ⟨he, ?_⟩
          refine h.mono fun b8 a4 h => ?_
          obtain ⟨he, h⟩ := h
          refine ⟨he, ?_⟩
          refine thenW_in fun au ae => ?_
          have h := h au a4.heap.size ((Ext.refl no a4).x_alloc ae) (Blk.of_new ae) ((Ext.refl no a4)).size (size_lt_alloc ae)
          refine h.mono fun bk b4 h => ?_
          obtain ⟨he, h⟩ := h
          refine ⟨he, ?_⟩
          refine h.mono fun b6 a8 h => ?_
          obtain ⟨he, h⟩ := h
          refine ⟨he, ?_⟩
          obtain ⟨al, af, ap, b0, h⟩ := h
          refine ⟨al, af, ap, b0, ?_⟩
          obtain ⟨ay, h⟩ := h
          refine ⟨by decide, ay, ?_⟩
          try rw [cut_zero]
          refine thenW_in fun ag aq => ?_
          have h := h ag a8.heap.size ((Ext.refl no a8).x_alloc aq) (Blk.of_new aq) ((Ext.refl no a8)).size (size_lt_alloc aq)
          obtain ⟨ao, ai, ak, am, hr, h⟩ := h
          refine ⟨ao, ai, ak, am, hr, ?_⟩
          obtain ⟨a9, a3, h⟩ := h
          try rw [w64 a9 a3]
          obtain ⟨bd, hk, h⟩ := h
          exact ⟨bd, hk, h⟩
        · have h := h.2 (Int.not_lt.1 (of_decide_eq_false b1))
          exact h

theorem journal_Frame.go (a2 : Int) (a0 : Int) (a1 : Int) (a4 : Option Addr) (a3 : Nat) (a5 : Nat) {R : Value → World → Prop} {w : World} (h : journal_Frame.N a2 a0 a1 a4 a3 a5 R w) : Calls Try.prog 53 #[.int .u32 a2, .int .u32 a0, .int .u32 a1, .slice a4 a3 a5] w fun e w' => ∃ v, e = .returned v ∧ R v w' := journal_Frame.ok a2 a0 a1 a4 a3 a5 (journal_Frame.up a2 a0 a1 a4 a3 a5 h)
/-- cachetteref10.four -/
def cachetteref10_four.M (n1 : Int) (R : Value → World → Prop) (w : World) : Prop :=
 16777216 ≠ (0 : Int) ∧ 65536 ≠ (0 : Int) ∧ 256 ≠ (0 : Int) ∧ 256 ≠ (0 : Int) ∧ 256 ≠ (0 : Int) ∧ 256 ≠ (0 : Int) ∧ thenW (w.alloc (.cells #[.int .u8 (IntKind.u8.wrap (IntKind.u32.wrap (Int.tdiv n1 16777216))), .int .u8 (IntKind.u8.wrap (Int.tmod (IntKind.u32.wrap (Int.tdiv n1 65536)) 256)), .int .u8 (IntKind.u8.wrap (Int.tmod (IntKind.u32.wrap (Int.tdiv n1 256)) 256)), .int .u8 (IntKind.u8.wrap (Int.tmod n1 256))] 5)) fun a0 =>
 R (.slice (some (blk w.heap.size)) 4 4) a0

theorem cachetteref10_four.eq (n1 : Int) (R : Value → World → Prop) (w : World) : mfunc Try.prog [] 65 [.int .u32 n1] R w = cachetteref10_four.M n1 R w := by kernel_rfl
theorem cachetteref10_four.ok (n1 : Int) {R : Value → World → Prop} {w : World} (h : cachetteref10_four.M n1 R w) : Calls Try.prog 65 #[.int .u32 n1] w fun e w' => ∃ v, e = .returned v ∧ R v w' :=
  mfunc_ok follows (H := []) (args := [.int .u32 n1]) (by rw [cachetteref10_four.eq]; exact h)

def cachetteref10_four.N (n1 : Int) (R : Value → World → Prop) (w : World) : Prop :=
 ∀ (a0 : World) (q3 : Nat), Ext no w a0 → Blk a0 q3 5 [.int .u8 (IntKind.u8.wrap (IntKind.u32.wrap (Int.tdiv n1 16777216))), .int .u8 (IntKind.u8.wrap (Int.tmod (IntKind.u32.wrap (Int.tdiv n1 65536)) 256)), .int .u8 (IntKind.u8.wrap (Int.tmod (IntKind.u32.wrap (Int.tdiv n1 256)) 256)), .int .u8 (IntKind.u8.wrap (Int.tmod n1 256))] → w.heap.size ≤ q3 → q3 < a0.heap.size →
 R (.slice (some (blk q3)) 4 4) a0

theorem cachetteref10_four.up (n1 : Int) {R : Value → World → Prop} {w : World} (h : cachetteref10_four.N n1 R w) : cachetteref10_four.M n1 R w := by
  unfold cachetteref10_four.M
  unfold cachetteref10_four.N at h
  refine ⟨by decide, ?_⟩
  refine ⟨by decide, ?_⟩
  refine ⟨by decide, ?_⟩
  refine ⟨by decide, ?_⟩
  refine ⟨by decide, ?_⟩
  refine ⟨by decide, ?_⟩
  refine thenW_in fun a0 e2 => ?_
  have h := h a0 w.heap.size ((Ext.refl no w).x_alloc e2) (Blk.of_new e2) ((Ext.refl no w)).size (size_lt_alloc e2)
  exact h

theorem cachetteref10_four.go (n1 : Int) {R : Value → World → Prop} {w : World} (h : cachetteref10_four.N n1 R w) : Calls Try.prog 65 #[.int .u32 n1] w fun e w' => ∃ v, e = .returned v ∧ R v w' := cachetteref10_four.ok n1 (cachetteref10_four.up n1 h)
/-- cachetteref10.number -/
def cachetteref10_number.M (a2 : Option Addr) (a1 : Nat) (a6 : Nat) (R : Value → World → Prop) (w : World) : Prop :=
 thenW (w.drew) fun a0 =>
 a2.elim False fun a3 =>
 0 ≤ (0 : Int) ∧ (0 : Int) < (a1 : Int) ∧
 ∃ (x4 : Int), a0.cell? (a3.add (Int.toNat 0 * 1)) = some (.int .u8 x4) ∧
 a2.elim False fun a5 =>
 0 ≤ (1 : Int) ∧ (1 : Int) < (a1 : Int) ∧
 ∃ (x6 : Int), a0.cell? (a5.add (Int.toNat 1 * 1)) = some (.int .u8 x6) ∧
 a2.elim False fun a7 =>
 0 ≤ (2 : Int) ∧ (2 : Int) < (a1 : Int) ∧
 ∃ (x8 : Int), a0.cell? (a7.add (Int.toNat 2 * 1)) = some (.int .u8 x8) ∧
 a2.elim False fun a9 =>
 0 ≤ (3 : Int) ∧ (3 : Int) < (a1 : Int) ∧
 ∃ (a4 : Int), a0.cell? (a9.add (Int.toNat 3 * 1)) = some (.int .u8 a4) ∧
 R (.int .u32 (IntKind.u32.wrap ((IntKind.u32.wrap ((IntKind.u32.wrap ((IntKind.u32.wrap ((IntKind.u32.wrap x4) * 16777216)) + (IntKind.u32.wrap ((IntKind.u32.wrap x6) * 65536)))) + (IntKind.u32.wrap ((IntKind.u32.wrap x8) * 256)))) + (IntKind.u32.wrap a4)))) a0

theorem cachetteref10_number.eq (b1a : Option Addr) (b1n : Nat) (b1c : Nat) (R : Value → World → Prop) (w : World) : mfunc Try.prog [] 56 [.slice b1a b1n b1c] R w = cachetteref10_number.M b1a b1n b1c R w := by kernel_rfl
theorem cachetteref10_number.ok (a2 : Option Addr) (a0 : Nat) (a1 : Nat) {R : Value → World → Prop} {w : World} (h : cachetteref10_number.M a2 a0 a1 R w) : Calls Try.prog 56 #[.slice a2 a0 a1] w fun e w' => ∃ v, e = .returned v ∧ R v w' :=
  mfunc_ok follows (H := []) (args := [.slice a2 a0 a1]) (by rw [cachetteref10_number.eq]; exact h)

def cachetteref10_number.N (a4 : Option Addr) (a0 : Nat) (a5 : Nat) (R : Value → World → Prop) (w : World) : Prop :=
 ∃ a3 : Addr, a4 = some a3 ∧
 (0 : Int) < (a0 : Int) ∧
 ∃ (x5 : Int), w.cell? (a3.add (Int.toNat 0 * 1)) = some (.int .u8 x5) ∧
 (1 : Int) < (a0 : Int) ∧
 ∃ (x7 : Int), w.cell? (a3.add (Int.toNat 1 * 1)) = some (.int .u8 x7) ∧
 (2 : Int) < (a0 : Int) ∧
 ∃ (x9 : Int), w.cell? (a3.add (Int.toNat 2 * 1)) = some (.int .u8 x9) ∧
 (3 : Int) < (a0 : Int) ∧
 ∃ (a1 : Int), w.cell? (a3.add (Int.toNat 3 * 1)) = some (.int .u8 a1) ∧
 ∀ (a2 : World), Ext no w a2 →
 R (.int .u32 (IntKind.u32.wrap ((IntKind.u32.wrap ((IntKind.u32.wrap ((IntKind.u32.wrap ((IntKind.u32.wrap x5) * 16777216)) + (IntKind.u32.wrap ((IntKind.u32.wrap x7) * 65536)))) + (IntKind.u32.wrap ((IntKind.u32.wrap x9) * 256)))) + (IntKind.u32.wrap a1)))) a2

theorem cachetteref10_number.up (a7 : Option Addr) (a5 : Nat) (a6 : Nat) {R : Value → World → Prop} {w : World} (h : cachetteref10_number.N a7 a5 a6 R w) : cachetteref10_number.M a7 a5 a6 R w := by
  unfold cachetteref10_number.M
  unfold cachetteref10_number.N at h
  refine thenW_in fun ac e2 => ?_
  have a1 := (Ext.refl no w).x_drew e2
  obtain ⟨a3, a2, h⟩ := h
  refine elim_some a2 ?_
  obtain ⟨a0, h⟩ := h
  refine ⟨by decide, a0, ?_⟩
  obtain ⟨x5, a9, h⟩ := h
  refine ⟨x5, (a1).cell a9 id, ?_⟩
  refine elim_some a2 ?_
  obtain ⟨a0, h⟩ := h
  refine ⟨by decide, a0, ?_⟩
  obtain ⟨x7, aa, h⟩ := h
  refine ⟨x7, (a1).cell aa id, ?_⟩
  refine elim_some a2 ?_
  obtain ⟨a0, h⟩ := h
  refine ⟨by decide, a0, ?_⟩
  obtain ⟨x9, ab, h⟩ := h
  refine ⟨x9, (a1).cell ab id, ?_⟩
  refine elim_some a2 ?_
  obtain ⟨a0, h⟩ := h
  refine ⟨by decide, a0, ?_⟩
  obtain ⟨a8, a4, h⟩ := h
  refine ⟨a8, (a1).cell a4 id, ?_⟩
  have h := h ac a1
  exact h

theorem cachetteref10_number.go (a2 : Option Addr) (a0 : Nat) (a1 : Nat) {R : Value → World → Prop} {w : World} (h : cachetteref10_number.N a2 a0 a1 R w) : Calls Try.prog 56 #[.slice a2 a0 a1] w fun e w' => ∃ v, e = .returned v ∧ R v w' := cachetteref10_number.ok a2 a0 a1 (cachetteref10_number.up a2 a0 a1 h)
theorem cachetteref10_number.run (a2 : Option Addr) (a0 : Nat) (a1 : Nat) {V : Value} {Q : World → Prop} {w : World} (h : cachetteref10_number.N a2 a0 a1 (fun v w' => v = V ∧ Q w') w) : Calls Try.prog 56 #[.slice a2 a0 a1] w (Ret V Q) := (cachetteref10_number.go a2 a0 a1 h).mono fun e w' ⟨v, he, hv, hq⟩ => ⟨by rw [he, hv], hq⟩

/-- cachetteref10.Frame -/
def cachetteref10_Frame.M (b7 : Int) (ae : Int) (bf : Int) (bt : Option Addr) (ad : Nat) (bq : Nat) (R : Value → World → Prop) (w : World) : Prop :=
 bif decide ((ad : Int) > 4000) then (
 R (.tuple #[.slice none 0 0, .int .i64 3]) w) else (
 bif b7 == 0 then (
 R (.tuple #[.slice none 0 0, .int .i64 1]) w) else (
 bif ae == 0 then (
 R (.tuple #[.slice none 0 0, .int .i64 1]) w) else (
 Calls Try.prog 9 #[.int .i64 (ad : Int)] w fun c0 bz => ∃ (a2 : Int), c0 = .returned (.int .i64 a2) ∧
 ∃ (I0 : Nat → List Value → World → Prop) (bw : Nat), I0 bw [.slice none 0 0, .int .i64 0] bz ∧ ∀ (bs : Nat) (ag : World) (a3 : Option Addr) (a0 : Nat) (a1 : Nat) (i9 : Int), I0 bs [.slice a3 a0 a1, .int .i64 i9] ag →
 bif decide (i9 < a2) then (
 (0 : Int) ≤ ((if ((ad : Int) : Int) < (IntKind.i64.wrap ((IntKind.i64.wrap ((48 : Int) * i9)) + 48)) then (ad : Int) else (IntKind.i64.wrap ((IntKind.i64.wrap ((48 : Int) * i9)) + 48))) : Int) ∧ ((if ((ad : Int) : Int) < (IntKind.i64.wrap ((IntKind.i64.wrap ((48 : Int) * i9)) + 48)) then (ad : Int) else (IntKind.i64.wrap ((IntKind.i64.wrap ((48 : Int) * i9)) + 48))) : Int) ≤ (bq : Int) ∧ (0 : Int) ≤ ((IntKind.i64.wrap ((48 : Int) * i9)) : Int) ∧ ((IntKind.i64.wrap ((48 : Int) * i9)) : Int) ≤ ((if ((ad : Int) : Int) < (IntKind.i64.wrap ((IntKind.i64.wrap ((48 : Int) * i9)) + 48)) then (ad : Int) else (IntKind.i64.wrap ((IntKind.i64.wrap ((48 : Int) * i9)) + 48))) : Int) ∧
 thenW (ag.alloc (.cells #[.int .u8 197] 5)) fun bi =>
 Calls Try.prog 65 #[.int .u32 b7] bi fun bo bp => ∃ (ab : Option Addr) (a7 : Nat) (ac : Nat), bo = .returned (.slice ab a7 ac) ∧
 ∃ (b9 : Option Addr) (av : Nat) (b1 : Nat) (ba : World), (Builtin.append_ #[30, 30] 30 #[.slice (some (blk ag.heap.size)) 1 1, .slice ab a7 ac]).run Try.prog bp = .ok (.slice b9 av b1) ba ∧
 Calls Try.prog 65 #[.int .u32 ae] ba fun bk bg => ∃ (a5 : Option Addr) (a4 : Nat) (a6 : Nat), bk = .returned (.slice a5 a4 a6) ∧
 ∃ (am : Option Addr) (ax : Nat) (ay : Nat) (bc : World), (Builtin.append_ #[30, 30] 30 #[.slice b9 av b1, .slice a5 a4 a6]).run Try.prog bg = .ok (.slice am ax ay) bc ∧
 Calls Try.prog 65 #[.int .u32 bf] bc fun bl bm => ∃ (aa : Option Addr) (a9 : Nat) (a8 : Nat), bl = .returned (.slice aa a9 a8) ∧
 ∃ (au : Option Addr) (ap : Nat) (al : Nat) (ak : World), (Builtin.append_ #[30, 30] 30 #[.slice am ax ay, .slice aa a9 a8]).run Try.prog bm = .ok (.slice au ap al) ak ∧
 thenW (ak.alloc (.cells #[.int .u8 (IntKind.u8.wrap i9), .int .u8 (IntKind.u8.wrap a2), .int .u8 (IntKind.u8.wrap (((Int.toNat (if ((ad : Int) : Int) < (IntKind.i64.wrap ((IntKind.i64.wrap ((48 : Int) * i9)) + 48)) then (ad : Int) else (IntKind.i64.wrap ((IntKind.i64.wrap ((48 : Int) * i9)) + 48)))) - (Int.toNat (IntKind.i64.wrap ((48 : Int) * i9))) : Nat) : Int))] 5)) fun bn =>
 ∃ (be : Option Addr) (b5 : Nat) (bd : Nat) (bb : World), (Builtin.append_ #[30, 30] 30 #[.slice au ap al, .slice (some (blk ak.heap.size)) 3 3]).run Try.prog bn = .ok (.slice be b5 bd) bb ∧
 ∃ (az : Option Addr) (b0 : Nat) (b4 : Nat) (an : World), (Builtin.append_ #[30, 30] 30 #[.slice be b5 bd, .slice (if bq = Int.toNat (IntKind.i64.wrap ((48 : Int) * i9)) then bt else Option.map (fun z : Addr => z.add ((Int.toNat (IntKind.i64.wrap ((48 : Int) * i9))) * 1)) bt) ((Int.toNat (if ((ad : Int) : Int) < (IntKind.i64.wrap ((IntKind.i64.wrap ((48 : Int) * i9)) + 48)) then (ad : Int) else (IntKind.i64.wrap ((IntKind.i64.wrap ((48 : Int) * i9)) + 48)))) - (Int.toNat (IntKind.i64.wrap ((48 : Int) * i9)))) (bq - (Int.toNat (IntKind.i64.wrap ((48 : Int) * i9))))]).run Try.prog bb = .ok (.slice az b0 b4) an ∧
 ∃ (I2 : Nat → List Value → World → Prop) (bx : Nat), I2 bx [.slice az b0 b4] an ∧ ∀ (bu : Nat) (af : World) (ai : Option Addr) (ah : Nat) (aj : Nat), I2 bu [.slice ai ah aj] af →
 bif decide ((ah : Int) < 64) then (
 thenW (af.alloc (.cells #[.int .u8 0] 5)) fun bh =>
 ∃ (aq : Option Addr) (ar : Nat) (b8 : Nat) (b3 : World), (Builtin.append_ #[30, 30] 30 #[.slice ai ah aj, .slice (some (blk af.heap.size)) 1 1]).run Try.prog bh = .ok (.slice aq ar b8) b3 ∧
 ∃ bv, bv < bu ∧ I2 bv [.slice aq ar b8] b3) else (
 thenW (af.alloc (.cells #[.slice ai ah aj] 30)) fun bj =>
 ∃ (aw : Option Addr) (b6 : Nat) (ao : Nat) (b2 : World), (Builtin.append_ #[31, 31] 31 #[.slice a3 a0 a1, .slice (some (blk af.heap.size)) 1 1]).run Try.prog bj = .ok (.slice aw b6 ao) b2 ∧
 ∃ br, br < bs ∧ I0 br [.slice aw b6 ao, .int .i64 (IntKind.i64.wrap (i9 + 1))] b2)) else (
 R (.tuple #[.slice a3 a0 a1, .int .i64 0]) ag))))

theorem cachetteref10_Frame.eq (gen1 : Int) (round2 : Int) (seq3 : Int) (b4a : Option Addr) (b4n : Nat) (b4c : Nat) (R : Value → World → Prop) (w : World) : mfunc Try.prog [(0, [0, 1, 2, 3, 11], [(10, (.one .slice)), (12, (.one (.int .i64)))]), (2, [0, 1, 2, 3, 10, 11, 12], [(14, (.one .slice))])] 62 [.int .u32 gen1, .int .u32 round2, .int .u32 seq3, .slice b4a b4n b4c] R w = cachetteref10_Frame.M gen1 round2 seq3 b4a b4n b4c R w := by kernel_rfl
theorem cachetteref10_Frame.ok (a2 : Int) (a0 : Int) (a1 : Int) (a4 : Option Addr) (a3 : Nat) (a5 : Nat) {R : Value → World → Prop} {w : World} (h : cachetteref10_Frame.M a2 a0 a1 a4 a3 a5 R w) : Calls Try.prog 62 #[.int .u32 a2, .int .u32 a0, .int .u32 a1, .slice a4 a3 a5] w fun e w' => ∃ v, e = .returned v ∧ R v w' :=
  mfunc_ok follows (H := [(0, [0, 1, 2, 3, 11], [(10, (.one .slice)), (12, (.one (.int .i64)))]), (2, [0, 1, 2, 3, 10, 11, 12], [(14, (.one .slice))])]) (args := [.int .u32 a2, .int .u32 a0, .int .u32 a1, .slice a4 a3 a5]) (by rw [cachetteref10_Frame.eq]; exact h)

def cachetteref10_Frame.N (ao : Int) (a1 : Int) (bn : Int) (c3 : Option Addr) (a5 : Nat) (bu : Nat) (R : Value → World → Prop) (w : World) : Prop :=
 ((a5 : Int) > 4000 →
 R (.tuple #[.slice none 0 0, .int .i64 3]) w) ∧
 ((a5 : Int) ≤ 4000 →
 (ao = 0 →
 R (.tuple #[.slice none 0 0, .int .i64 1]) w) ∧
 (ao ≠ 0 →
 (a1 = 0 →
 R (.tuple #[.slice none 0 0, .int .i64 1]) w) ∧
 (a1 ≠ 0 →
 ∀ (bz : World), Ext no w bz →
 ∃ (I0 : Nat → List Value → World → Prop) (c2 : Nat), I0 c2 [.slice none 0 0, .int .i64 0] bz ∧ ∀ (c0 : Nat) (ai : World) (a4 : Option Addr) (a3 : Nat) (a2 : Nat) (a0 : Int), I0 c0 [.slice a4 a3 a2, .int .i64 a0] ai →
 (a0 < (cachetteref10_Parts.F (a5 : Int)) →
 (-9223372036854775808 : Int) ≤ ((48 : Int) * a0) ∧ ((48 : Int) * a0) < 9223372036854775808 ∧
 (-9223372036854775808 : Int) ≤ ((48 : Int) * a0) ∧ ((48 : Int) * a0) < 9223372036854775808 ∧
 (-9223372036854775808 : Int) ≤ (((48 : Int) * a0) + 48) ∧ (((48 : Int) * a0) + 48) < 9223372036854775808 ∧
 (0 : Int) ≤ ((if ((a5 : Int) : Int) < (((48 : Int) * a0) + 48) then (a5 : Int) else (((48 : Int) * a0) + 48)) : Int) ∧ ((if ((a5 : Int) : Int) < (((48 : Int) * a0) + 48) then (a5 : Int) else (((48 : Int) * a0) + 48)) : Int) ≤ (bu : Int) ∧ (0 : Int) ≤ (((48 : Int) * a0) : Int) ∧ (((48 : Int) * a0) : Int) ≤ ((if ((a5 : Int) : Int) < (((48 : Int) * a0) + 48) then (a5 : Int) else (((48 : Int) * a0) + 48)) : Int) ∧ 
 ∀ (ak : World) (bl : Nat), Ext no ai ak → Blk ak bl 5 [.int .u8 197] → ai.heap.size ≤ bl → bl < ak.heap.size →
 Calls Try.prog 65 #[.int .u32 ao] ak fun bt bs => ∃ (aa : Option Addr) (ad : Nat) (ae : Nat), bt = .returned (.slice aa ad ae) ∧
 ∃ (b4 : Option Addr) (b5 : Nat) (b9 : Nat) (ax : World), (Builtin.append_ #[30, 30] 30 #[.slice (some (blk bl)) 1 1, .slice aa ad ae]).run Try.prog bs = .ok (.slice b4 b5 b9) ax ∧
 Calls Try.prog 65 #[.int .u32 a1] ax fun bp bo => ∃ (a6 : Option Addr) (ac : Nat) (a9 : Nat), bp = .returned (.slice a6 ac a9) ∧
 ∃ (b2 : Option Addr) (aw : Nat) (bf : Nat) (b6 : World), (Builtin.append_ #[30, 30] 30 #[.slice b4 b5 b9, .slice a6 ac a9]).run Try.prog bo = .ok (.slice b2 aw bf) b6 ∧
 Calls Try.prog 65 #[.int .u32 bn] b6 fun bq br => ∃ (a8 : Option Addr) (ab : Nat) (a7 : Nat), bq = .returned (.slice a8 ab a7) ∧
 ∃ (bi : Option Addr) (ba : Nat) (bh : Nat) (ap : World), (Builtin.append_ #[30, 30] 30 #[.slice b2 aw bf, .slice a8 ab a7]).run Try.prog br = .ok (.slice bi ba bh) ap ∧
 ∀ (al : World) (bm : Nat), Ext no ap al → Blk al bm 5 [.int .u8 (IntKind.u8.wrap a0), .int .u8 (IntKind.u8.wrap (cachetteref10_Parts.F (a5 : Int))), .int .u8 (IntKind.u8.wrap (((Int.toNat (if ((a5 : Int) : Int) < (((48 : Int) * a0) + 48) then (a5 : Int) else (((48 : Int) * a0) + 48))) - (Int.toNat ((48 : Int) * a0)) : Nat) : Int))] → ap.heap.size ≤ bm → bm < al.heap.size →
 ∃ (ay : Option Addr) (au : Nat) (av : Nat) (be : World), (Builtin.append_ #[30, 30] 30 #[.slice bi ba bh, .slice (some (blk bm)) 3 3]).run Try.prog al = .ok (.slice ay au av) be ∧
 ∃ (az : Option Addr) (aq : Nat) (b1 : Nat) (bd : World), (Builtin.append_ #[30, 30] 30 #[.slice ay au av, .slice (cutA c3 bu (Int.toNat ((48 : Int) * a0)) 1) ((Int.toNat (if ((a5 : Int) : Int) < (((48 : Int) * a0) + 48) then (a5 : Int) else (((48 : Int) * a0) + 48))) - (Int.toNat ((48 : Int) * a0))) (bu - (Int.toNat ((48 : Int) * a0)))]).run Try.prog be = .ok (.slice az aq b1) bd ∧
 ∃ (I2 : Nat → List Value → World → Prop) (c1 : Nat), I2 c1 [.slice az aq b1] bd ∧ ∀ (bv : Nat) (af : World) (am : Option Addr) (ag : Nat) (an : Nat), I2 bv [.slice am ag an] af →
 ((ag : Int) < 64 →
 ∀ (aj : World) (bk : Nat), Ext no af aj → Blk aj bk 5 [.int .u8 0] → af.heap.size ≤ bk → bk < aj.heap.size →
 ∃ (b3 : Option Addr) (bc : Nat) (b7 : Nat) (bb : World), (Builtin.append_ #[30, 30] 30 #[.slice am ag an, .slice (some (blk bk)) 1 1]).run Try.prog aj = .ok (.slice b3 bc b7) bb ∧
 ∃ bx, bx < bv ∧ I2 bx [.slice b3 bc b7] bb) ∧
 ((64 : Int) ≤ (ag : Int) →
 ∀ (ah : World) (bj : Nat), Ext no af ah → Blk ah bj 30 [.slice am ag an] → af.heap.size ≤ bj → bj < ah.heap.size →
 ∃ (bg : Option Addr) (ar : Nat) (b8 : Nat) (b0 : World), (Builtin.append_ #[31, 31] 31 #[.slice a4 a3 a2, .slice (some (blk bj)) 1 1]).run Try.prog ah = .ok (.slice bg ar b8) b0 ∧
 (-9223372036854775808 : Int) ≤ (a0 + 1) ∧ (a0 + 1) < 9223372036854775808 ∧
 ∃ bw, bw < c0 ∧ I0 bw [.slice bg ar b8, .int .i64 (a0 + 1)] b0)) ∧
 ((cachetteref10_Parts.F (a5 : Int)) ≤ a0 →
 R (.tuple #[.slice a4 a3 a2, .int .i64 0]) ai))))

theorem cachetteref10_Frame.up (aj : Int) (a1 : Int) (ai : Int) (bs : Option Addr) (ak : Nat) (br : Nat) {R : Value → World → Prop} {w : World} (h : cachetteref10_Frame.N aj a1 ai bs ak br R w) : cachetteref10_Frame.M aj a1 ai bs ak br R w := by
  unfold cachetteref10_Frame.M
  unfold cachetteref10_Frame.N at h
  refine bif_of (fun c5 => ?_) (fun c5 => ?_)
  · have h := h.1 (of_decide_eq_true c5)
    exact h
  · have h := h.2 (Int.not_lt.1 (of_decide_eq_false c5))
    refine bif_of (fun c6 => ?_) (fun c6 => ?_)
    · have h := h.1 (beq_t c6)
      exact h
    · have h := h.2 (beq_f c6)
      refine bif_of (fun c7 => ?_) (fun c7 => ?_)
      · have h := h.1 (beq_t c7)
        exact h
      · have h := h.2 (beq_f c7)
        refine (cachetteref10_Parts.pure (ak : Int)).mono fun ee ww8 ⟨he, hxx⟩ => ⟨(cachetteref10_Parts.F (ak : Int)), he, ?_⟩
        have c0 := (Ext.refl no w).trans hxx
        have h := h ww8 c0
        obtain ⟨I0, c2, h0, h⟩ := h
        refine ⟨I0, c2, h0, fun cd a5 af ah ad ca hI => ?_⟩
        have h := h cd a5 af ah ad ca hI
        refine bif_of (fun b5 => ?_) (fun b5 => ?_)
        · have h := h.1 (of_decide_eq_true b5)
          obtain ⟨ae, ag, h⟩ := h
          try rw [w64 ae ag]
          obtain ⟨ae, ag, h⟩ := h
          try rw [w64 ae ag]
          obtain ⟨ae, ag, h⟩ := h
          try rw [w64 ae ag]
          obtain ⟨bt, c8, c4, cc, h⟩ := h
          refine ⟨bt, c8, c4, cc, ?_⟩
          refine thenW_in fun au b2 => ?_
          have h := h au a5.heap.size ((Ext.refl no a5).x_alloc b2) (Blk.of_new b2) ((Ext.refl no a5)).size (size_lt_alloc b2)
          refine h.mono fun ce bx h => ?_
          obtain ⟨a4, aa, ab, he, h⟩ := h
          refine ⟨a4, aa, ab, he, ?_⟩
          obtain ⟨b9, ay, bm, b7, hr, h⟩ := h
          refine ⟨b9, ay, bm, b7, hr, ?_⟩
          refine h.mono fun cb c9 h => ?_
          obtain ⟨a2, a8, ac, he, h⟩ := h
          refine ⟨a2, a8, ac, he, ?_⟩
          obtain ⟨bj, b6, b4, bb, hr, h⟩ := h
          refine ⟨bj, b6, b4, bb, hr, ?_⟩
          refine h.mono fun bw c3 h => ?_
          obtain ⟨a3, a7, a9, he, h⟩ := h
          refine ⟨a3, a7, a9, he, ?_⟩
          obtain ⟨bf, be, bq, a6, hr, h⟩ := h
          refine ⟨bf, be, bq, a6, hr, ?_⟩
          refine thenW_in fun bd ao => ?_
          have h := h bd a6.heap.size ((Ext.refl no a6).x_alloc ao) (Blk.of_new ao) ((Ext.refl no a6)).size (size_lt_alloc ao)
          obtain ⟨bh, an, bg, b3, hr, h⟩ := h
          refine ⟨bh, an, bg, b3, hr, ?_⟩
          obtain ⟨ax, al, b8, av, hr, h⟩ := h
          refine ⟨ax, al, b8, av, hr, ?_⟩
          obtain ⟨I2, bv, h0, h⟩ := h
          refine ⟨I2, bv, h0, fun bu a0 az b0 bc hI => ?_⟩
          have h := h bu a0 az b0 bc hI
          refine bif_of (fun bo => ?_) (fun bo => ?_)
          · have h := h.1 (of_decide_eq_true bo)
            refine thenW_in fun ba aq => ?_
            have h := h ba a0.heap.size ((Ext.refl no a0).x_alloc aq) (Blk.of_new aq) ((Ext.refl no a0)).size (size_lt_alloc aq)
            obtain ⟨ar, b1, bk, bn, hr, h⟩ := h
            refine ⟨ar, b1, bk, bn, hr, ?_⟩
            obtain ⟨c1, hk, h⟩ := h
            exact ⟨c1, hk, h⟩
          · have h := h.2 (Int.not_lt.1 (of_decide_eq_false bo))
            refine thenW_in fun bi bp => ?_
            have h := h bi a0.heap.size ((Ext.refl no a0).x_alloc bp) (Blk.of_new bp) ((Ext.refl no a0)).size (size_lt_alloc bp)
            obtain ⟨aw, am, bl, ap, hr, h⟩ := h
            refine ⟨aw, am, bl, ap, hr, ?_⟩
            obtain ⟨ae, ag, h⟩ := h
            try rw [w64 ae ag]
            obtain ⟨bz, hk, h⟩ := h
            exact ⟨bz, hk, h⟩
        · have h := h.2 (Int.not_lt.1 (of_decide_eq_false b5))
          exact h

theorem cachetteref10_Frame.go (a2 : Int) (a0 : Int) (a1 : Int) (a4 : Option Addr) (a3 : Nat) (a5 : Nat) {R : Value → World → Prop} {w : World} (h : cachetteref10_Frame.N a2 a0 a1 a4 a3 a5 R w) : Calls Try.prog 62 #[.int .u32 a2, .int .u32 a0, .int .u32 a1, .slice a4 a3 a5] w fun e w' => ∃ v, e = .returned v ∧ R v w' := cachetteref10_Frame.ok a2 a0 a1 a4 a3 a5 (cachetteref10_Frame.up a2 a0 a1 a4 a3 a5 h)
/-- cachetteref10.Lists -/
def cachetteref10_Lists.M (af : Option Addr) (a9 : Nat) (ai : Nat) (ag : Option Addr) (ac : Nat) (aj : Nat) (R : Value → World → Prop) (w : World) : Prop :=
 bif (a9 : Int) != (ac : Int) then (
 R (.bool false) w) else (
 ∃ (I0 : Nat → List Value → World → Prop) (m4 : Nat), I0 m4 [.int .i64 0] w ∧ ∀ (m5 : Nat) (a6 : World) (i3 : Int), I0 m5 [.int .i64 i3] a6 →
 bif decide (i3 < (a9 : Int)) then (
 thenW (a6.drew) fun a7 =>
 af.elim False fun a8 =>
 0 ≤ (i3 : Int) ∧ (i3 : Int) < (a9 : Int) ∧
 ∃ (ab : Option Addr) (ae : Nat) (ad : Nat), a7.cell? (a8.add (Int.toNat i3 * 1)) = some (.slice ab ae ad) ∧
 ag.elim False fun ah =>
 0 ≤ (i3 : Int) ∧ (i3 : Int) < (ac : Int) ∧
 ∃ (a1 : Option Addr) (a2 : Nat) (a4 : Nat), a7.cell? (ah.add (Int.toNat i3 * 1)) = some (.slice a1 a2 a4) ∧
 Calls Try.prog 21 #[.slice ab ae ad, .slice a1 a2 a4] a7 fun a5 a3 => ∃ (a0 : Bool), a5 = .returned (.bool a0) ∧
 bif !a0 then (
 R (.bool false) a3) else (
 ∃ aa, aa < m5 ∧ I0 aa [.int .i64 (IntKind.i64.wrap (i3 + 1))] a3)) else (
 R (.bool true) a6))

theorem cachetteref10_Lists.eq (a1a : Option Addr) (a1n : Nat) (a1c : Nat) (b2a : Option Addr) (b2n : Nat) (b2c : Nat) (R : Value → World → Prop) (w : World) : mfunc Try.prog [(0, [0, 1], [(5, (.one (.int .i64)))])] 45 [.slice a1a a1n a1c, .slice b2a b2n b2c] R w = cachetteref10_Lists.M a1a a1n a1c b2a b2n b2c R w := by kernel_rfl
theorem cachetteref10_Lists.ok (a4 : Option Addr) (a5 : Nat) (a3 : Nat) (a2 : Option Addr) (a1 : Nat) (a0 : Nat) {R : Value → World → Prop} {w : World} (h : cachetteref10_Lists.M a4 a5 a3 a2 a1 a0 R w) : Calls Try.prog 45 #[.slice a4 a5 a3, .slice a2 a1 a0] w fun e w' => ∃ v, e = .returned v ∧ R v w' :=
  mfunc_ok follows (H := [(0, [0, 1], [(5, (.one (.int .i64)))])]) (args := [.slice a4 a5 a3, .slice a2 a1 a0]) (by rw [cachetteref10_Lists.eq]; exact h)

def cachetteref10_Lists.N (ag : Option Addr) (a6 : Nat) (ai : Nat) (ah : Option Addr) (aa : Nat) (aj : Nat) (R : Value → World → Prop) (w : World) : Prop :=
 ((a6 : Int) ≠ (aa : Int) →
 R (.bool false) w) ∧
 ((a6 : Int) = (aa : Int) →
 ∃ (I0 : Nat → List Value → World → Prop) (m5 : Nat), I0 m5 [.int .i64 0] w ∧ ∀ (m6 : Nat) (a5 : World) (i4 : Int), I0 m6 [.int .i64 i4] a5 →
 (i4 < (a6 : Int) →
 ∃ af : Addr, ag = some af ∧
 0 ≤ (i4 : Int) ∧ (i4 : Int) < (a6 : Int) ∧
 ∃ (a9 : Option Addr) (a7 : Nat) (a4 : Nat), a5.cell? (af.add (Int.toNat i4 * 1)) = some (.slice a9 a7 a4) ∧
 ∃ ad : Addr, ah = some ad ∧
 0 ≤ (i4 : Int) ∧ (i4 : Int) < (aa : Int) ∧
 ∃ (a2 : Option Addr) (a1 : Nat) (a3 : Nat), a5.cell? (ad.add (Int.toNat i4 * 1)) = some (.slice a2 a1 a3) ∧
 ∀ (ac : World), Ext no a5 ac →
 Calls Try.prog 21 #[.slice a9 a7 a4, .slice a2 a1 a3] ac fun ab a8 => ∃ (a0 : Bool), ab = .returned (.bool a0) ∧
 (a0 = false →
 R (.bool false) a8) ∧
 (a0 = true →
 (-9223372036854775808 : Int) ≤ (i4 + 1) ∧ (i4 + 1) < 9223372036854775808 ∧
 ∃ ae, ae < m6 ∧ I0 ae [.int .i64 (i4 + 1)] a8)) ∧
 ((a6 : Int) ≤ i4 →
 R (.bool true) a5))

theorem cachetteref10_Lists.up (ag : Option Addr) (ak : Nat) (af : Nat) (al : Option Addr) (ah : Nat) (ai : Nat) {R : Value → World → Prop} {w : World} (h : cachetteref10_Lists.N ag ak af al ah ai R w) : cachetteref10_Lists.M ag ak af al ah ai R w := by
  unfold cachetteref10_Lists.M
  unfold cachetteref10_Lists.N at h
  refine bif_of (fun c3 => ?_) (fun c3 => ?_)
  · have h := h.1 (bne_t c3)
    exact h
  · have h := h.2 (bne_f c3)
    obtain ⟨I0, m5, h0, h⟩ := h
    refine ⟨I0, m5, h0, fun m6 aj i4 hI => ?_⟩
    have h := h m6 aj i4 hI
    refine bif_of (fun c8 => ?_) (fun c8 => ?_)
    · have h := h.1 (of_decide_eq_true c8)
      refine thenW_in fun am e9 => ?_
      have a4 := (Ext.refl no aj).x_drew e9
      obtain ⟨av, a1, h⟩ := h
      refine elim_some a1 ?_
      obtain ⟨ad, a9, h⟩ := h
      refine ⟨ad, a9, ?_⟩
      obtain ⟨ae, ac, a8, ab, h⟩ := h
      refine ⟨ae, ac, a8, (a4).cell ab id, ?_⟩
      obtain ⟨au, a7, h⟩ := h
      refine elim_some a7 ?_
      obtain ⟨ad, a9, h⟩ := h
      refine ⟨ad, a9, ?_⟩
      obtain ⟨a3, a2, a6, aa, h⟩ := h
      refine ⟨a3, a2, a6, (a4).cell aa id, ?_⟩
      have h := h am a4
      refine h.mono fun ao ar h => ?_
      obtain ⟨a0, he, h⟩ := h
      refine ⟨a0, he, ?_⟩
      refine bif_of (fun a5 => ?_) (fun a5 => ?_)
      · have h := h.1 (not_t a5)
        exact h
      · have h := h.2 (not_f a5)
        obtain ⟨aq, an, h⟩ := h
        try rw [w64 aq an]
        obtain ⟨ap, hk, h⟩ := h
        exact ⟨ap, hk, h⟩
    · have h := h.2 (Int.not_lt.1 (of_decide_eq_false c8))
      exact h

theorem cachetteref10_Lists.go (a4 : Option Addr) (a5 : Nat) (a3 : Nat) (a2 : Option Addr) (a1 : Nat) (a0 : Nat) {R : Value → World → Prop} {w : World} (h : cachetteref10_Lists.N a4 a5 a3 a2 a1 a0 R w) : Calls Try.prog 45 #[.slice a4 a5 a3, .slice a2 a1 a0] w fun e w' => ∃ v, e = .returned v ∧ R v w' := cachetteref10_Lists.ok a4 a5 a3 a2 a1 a0 (cachetteref10_Lists.up a4 a5 a3 a2 a1 a0 h)
theorem cachetteref10_Lists.run (a4 : Option Addr) (a5 : Nat) (a3 : Nat) (a2 : Option Addr) (a1 : Nat) (a0 : Nat) {V : Value} {Q : World → Prop} {w : World} (h : cachetteref10_Lists.N a4 a5 a3 a2 a1 a0 (fun v w' => v = V ∧ Q w') w) : Calls Try.prog 45 #[.slice a4 a5 a3, .slice a2 a1 a0] w (Ret V Q) := (cachetteref10_Lists.go a4 a5 a3 a2 a1 a0 h).mono fun e w' ⟨v, he, hv, hq⟩ => ⟨by rw [he, hv], hq⟩

end Go.Proofs.Ytidijnfkcpbkiaa

/- Journal: a record's sectors; the program's Frame. -/
set_option linter.unusedVariables false
set_option linter.unusedSimpArgs false
set_option maxRecDepth 20000
set_option maxHeartbeats 2000000
namespace Go.Proofs.Ytidijnfkcpbkiaa
open Go Go.Mx Go.Proofs
open W (OwnB GivesW)
theorem inf30 : (Try.prog.info? 30).map (fun i => (i.zero, i.size, i.bytes)) = some (some (.slice none 0 0), 1, 24) := by kernel_rfl
theorem wrapU8 (k : Nat) : IntKind.u8.wrap (k : Int) = ((UInt8.ofNat k).toNat : Int) := by
  rw [IntKind.wrap_u8]
  simp
theorem wrapU8i {z : Int} (h : 0 ≤ z) : Value.int .u8 (IntKind.u8.wrap z) = u8V (UInt8.ofNat z.toNat) := by
  obtain ⟨k, rfl⟩ := Int.eq_ofNat_of_zero_le h
  unfold u8V
  rw [wrapU8]; rfl
def be4 (n : Nat) : List UInt8 := [UInt8.ofNat (n / 16777216), UInt8.ofNat (n / 65536), UInt8.ofNat (n / 256), UInt8.ofNat n]
/-- how many parts. -/
def partsN (n : Nat) : Nat := if n > 4000 then 0 else if n = 0 then 1 else (n + 47) / 48
def partsI (n : Int) : Int := if n < 0 then 0 else (partsN n.toNat : Int)
theorem parts_eq {n : Int} (h0 : 0 ≤ n) (h1 : n ≤ 4000) : partsI n = if n = 0 then 1 else (n + 47) / 48 := by
  unfold partsI partsN
  rw [if_neg (by omega), if_neg (by omega)]
  by_cases hz : n = 0
  · subst hz; rfl
  · rw [if_neg (by omega), if_neg hz]
    omega
theorem parts_out {n : Int} (h : n < 0 ∨ n > 4000) : partsI n = 0 := by
  unfold partsI partsN
  by_cases h0 : n < 0
  · rw [if_pos h0]
  · rw [if_neg h0, if_pos (by omega)]; rfl
theorem parts_F (n : Int) : journal_Parts.F n = partsI n := by
  unfold journal_Parts.F
  by_cases h0 : n < 0
  · rw [if_pos h0, parts_out (.inl h0)]
  rw [if_neg h0]
  by_cases h1 : n > 4000
  · rw [if_pos h1, parts_out (.inr h1)]
  rw [if_neg h1, parts_eq (by omega) (by omega), w64 (n := n + 48) (by omega) (by omega), w64 (n := n + 48 - 1) (by omega) (by omega), Int.tdiv_eq_ediv_of_nonneg (by omega), w64 (n := (n + 48 - 1) / 48) (by omega) (by omega)]
  by_cases hz : n = 0
  · subst hz; rfl
  · rw [if_neg hz, if_neg (by omega)]
    omega
theorem refParts_F (n : Int) : cachetteref10_Parts.F n = partsI n := by
  unfold cachetteref10_Parts.F
  by_cases h0 : n < 0
  · rw [if_pos h0, parts_out (.inl h0)]
  rw [if_neg h0]
  by_cases h1 : n > 4000
  · rw [if_pos h1, parts_out (.inr h1)]
  rw [if_neg h1, parts_eq (by omega) (by omega)]
  by_cases hz : n = 0
  · subst hz; rfl
  · rw [if_neg hz, if_neg hz, w64 (n := n + 47) (by omega) (by omega), Int.tdiv_eq_ediv_of_nonneg (by omega), w64 (n := (n + 47) / 48) (by omega) (by omega)]
theorem partsI_nat (n : Nat) : partsI (n : Int) = (partsN n : Int) := by
  unfold partsI
  rw [if_neg (by omega), Int.toNat_natCast]
theorem partsN_le (n : Nat) : partsN n ≤ 84 := by
  unfold partsN
  split
  · omega
  · split
    · omega
    · omega
/-- what a sector begins with. -/
def headL (gen round seq i n k : Nat) : List UInt8 := 197 :: (be4 gen ++ be4 round ++ be4 seq ++ [UInt8.ofNat i, UInt8.ofNat n, UInt8.ofNat k])
theorem headL_len (gen round seq i n k : Nat) : (headL gen round seq i n k).length = 16 := rfl
def secL (gen round seq i n : Nat) (x : List UInt8) : List UInt8 := headL gen round seq i n x.length ++ x ++ List.replicate (48 - x.length) 0
def partL (b : List UInt8) (i : Nat) : List UInt8 := (b.drop (48 * i)).take 48
theorem partL_le (b : List UInt8) (i : Nat) : (partL b i).length ≤ 48 := by unfold partL; rw [List.length_take]; omega
theorem secL_len (gen round seq i n : Nat) {x : List UInt8} (h : x.length ≤ 48) : (secL gen round seq i n x).length = 64 := by
  unfold secL
  rw [List.length_append, List.length_append, headL_len, List.length_replicate]; omega
def frameL (gen round seq : Nat) (b : List UInt8) : List (List UInt8) := (List.range (partsN b.length)).map fun i => secL gen round seq i (partsN b.length) (partL b i)
def frameK (gen round seq : Nat) (b : List UInt8) : List (List UInt8) × Int :=
  if b.length > 4000 then ([], 3) else if gen = 0 ∨ round = 0 then ([], 1) else (frameL gen round seq b, 0)
/-- a list of bytes' rows. -/
def BSok (w : World) (o : Own) (x : BS) : Prop := Row w o x.a (bytesV x.bs) ∧ x.bs.length ≤ x.c
/-- a sector on its way. -/
structure SB (w : World) (q g : Nat) (l : List UInt8) : Prop where
  p : Blk w q 98 [.slice (some (blk g)) l.length 64]
  b : Blk w g 5 (bytesV (l ++ List.replicate (64 - l.length) 0))
  ne : q ≠ g
  le : l.length ≤ 64
section
variable {w w' w1 : World} {o o' : Own} {q g n N : Nat} {K : Nat → Prop} {l x : List UInt8} {xa : Option Addr} {xc : Nat}
theorem BSok.step {x : BS} (h : BSok w o x) (s : Step K w o w' o') : BSok w' o' x := ⟨h.1.step s, h.2⟩
theorem SB.no (h : SB w q g l) (X : Ext no w w') : SB w' q g l := ⟨h.p.ext X id, h.b.ext X id, h.ne, h.le⟩
theorem sec_types (v : Value) : (Builtin.append_ #[98, 30] 98 #[.slice (some (blk g)) n 64, v]).run Try.prog w = (Builtin.append_ #[98, 98] 98 #[.slice (some (blk g)) n 64, v]).run Try.prog w := by
  obtain ⟨i, hi, hz, hs, hb⟩ := info_of W.infU8
  unfold Builtin.append_
  simp [run_underlying Try.underlying98, run_underlying Try.underlying30, sizeOf, typeInfo, hi]
theorem blk_row_set {cur : List Value} {t : TypeId} (h : Blk w g t cur) (new : List Value) : Blk (w.setRow g new.toArray) g t new ∧ Ext (fun b => b = g) w (w.setRow g new.toArray) := by
  refine ⟨?_, rfl, rfl, rfl, by simp, fun k _ hk => setRow_other w g k _ hk⟩
  have := setRow_heap w g _ new.toArray t _ h
  unfold Blk
  exact this
theorem run_put (hS : SB w q g l) (hx : RowAt w xa (bytesV x)) (hl : l.length + x.length ≤ 64) :
    ∃ w', (Builtin.append_ #[98, 30] 98 #[.slice (some (blk g)) l.length 64, .slice xa x.length xc]).run Try.prog w = .ok (.slice (some (blk g)) (l ++ x).length 64) w' ∧
      Blk w' g 5 (bytesV (l ++ x ++ List.replicate (64 - (l ++ x).length) 0)) ∧ Ext (fun b => b = g) w w' := by
  obtain ⟨i, hi, hz, hs, hb⟩ := info_of W.infU8
  have e1 : (l ++ x).length = l.length + x.length := List.length_append
  have hle := hS.le
  rw [sec_types]
  cases xa with
  | none =>
    have : x = [] := by simpa [bytesV] using hx.none_nil
    subst this
    refine ⟨w, ?_, by rw [List.append_nil]; exact hS.b, Ext.refl _ _⟩
    rw [e1]
    simp [Builtin.append_, run_underlying Try.underlying98, sizeOf, typeInfo, hi, Builtin.lenOf, Builtin.firstCells, hle, storeCells]
  | some ad =>
    have hlen : (bytesV (l ++ List.replicate (64 - l.length) 0)).length = 64 := by rw [bytesV_length, List.length_append, List.length_replicate]; omega
    have hr := run_append_room (P := Try.prog) (w := w) 98 98 5 i Try.underlying98 hi g l.length 64 _ hS.b ad x.length xc (bytesV x) (by rw [bytesV_length, hs]; omega) (fun j u hu => hx.at_ hu) (bytesV_one x) hl (by
      rw [hs, bytesV_length, List.size_toArray, hlen]; omega)
    rw [hs, Nat.mul_one, bytesV_length] at hr
    have hnew : (bytesV (l ++ List.replicate (64 - l.length) 0)).toArray.toList.take l.length ++ bytesV x ++ (bytesV (l ++ List.replicate (64 - l.length) 0)).toArray.toList.drop (l.length + x.length) = bytesV (l ++ x ++ List.replicate (64 - (l ++ x).length) 0) := by
      have hb : ∀ n, bytesV (l ++ List.replicate n 0) = bytesV l ++ List.replicate n (u8V 0) := fun n => by simp [bytesV]
      have hb2 : ∀ n, bytesV (l ++ x ++ List.replicate n 0) = bytesV l ++ bytesV x ++ List.replicate n (u8V 0) := fun n => by simp [bytesV]
      rw [hb, hb2]
      have h1 : (bytesV l ++ List.replicate (64 - l.length) (u8V 0)).take l.length = bytesV l := by
        rw [List.take_append_of_le_length (by rw [bytesV_length]; omega), List.take_of_length_le (by rw [bytesV_length]; omega)]
      have h2 : (bytesV l ++ List.replicate (64 - l.length) (u8V 0)).drop (l.length + x.length) = List.replicate (64 - (l ++ x).length) (u8V 0) := by
        rw [← bytesV_length l, List.drop_length_add_append, List.drop_replicate]
        congr 1
        rw [e1, bytesV_length]; omega
      show (bytesV l ++ List.replicate (64 - l.length) (u8V 0)).take l.length ++ bytesV x ++ (bytesV l ++ List.replicate (64 - l.length) (u8V 0)).drop (l.length + x.length) = _
      rw [h1, h2]
    rw [hnew] at hr
    obtain ⟨h1, h2⟩ := blk_row_set hS.b (bytesV (l ++ x ++ List.replicate (64 - (l ++ x).length) 0))
    exact ⟨_, by rw [e1]; rw [e1] at hr; exact hr, h1, h2⟩
theorem put_spec (hS : SB w q g l) (hx : RowAt w xa (bytesV x)) (hl : l.length + x.length ≤ 64) :
    Calls Try.prog 60 #[.pointer (some (blk q)), .slice xa x.length xc] w (Ret (.tuple #[]) fun w' => SB w' q g (l ++ x) ∧ Ext (fun b => b = q ∨ b = g) w w') := by
  refine journal_sector_put.run _ _ _ _ ?_
  unfold journal_sector_put.N
  obtain ⟨w7, hr, hb7, X7⟩ := run_put (xc := xc) hS hx hl
  have hne := hS.ne
  have p7 := hS.p.ext X7 (fun e => hne e)
  refine ⟨_, rfl, _, _, _, hS.p.cella (i := 0) rfl, _, _, _, w7, hr, p7.cana (i := 0) rfl, thenW_in fun w8 e8 => ⟨rfl, ⟨p7.seti 0 rfl e8, hb7.oth rfl (fun e => hne e.symm) e8, hne, by rw [List.length_append]; exact hl⟩, ?_⟩⟩
  exact (X7.mono fun b h _ => .inr h).x_set (q := q) (i := 0) rfl (.inl (.inl rfl)) e8
theorem number_spec (hS : SB w q g l) {m : Nat} (hl : l.length + 4 ≤ 64) :
    Calls Try.prog 61 #[.pointer (some (blk q)), .int .u32 m] w (Ret (.tuple #[]) fun w' => SB w' q g (l ++ be4 m) ∧ Ext (fun b => b = q ∨ b = g) w w') := by
  refine journal_sector_number.run _ _ ?_
  unfold journal_sector_number.N
  intro w3 q4 X3 hb hq hq'
  have hrow : RowAt w3 (some (blk q4)) (bytesV (be4 m)) := by
    have := RowAt.of_blk hb
    have e : ∀ k : Nat, Value.int .u8 (IntKind.u8.wrap ((m : Int) / (k : Int))) = u8V (UInt8.ofNat (m / k)) := fun k => wrapU8i (z := ((m / k : Nat) : Int)) (Int.natCast_nonneg _)
    have e1 : Value.int .u8 (IntKind.u8.wrap ((m : Int) / 16777216)) = _ := e 16777216
    have e2 : Value.int .u8 (IntKind.u8.wrap ((m : Int) / 65536)) = _ := e 65536
    have e3 : Value.int .u8 (IntKind.u8.wrap ((m : Int) / 256)) = _ := e 256
    have e4 : Value.int .u8 (IntKind.u8.wrap (m : Int)) = u8V (UInt8.ofNat m) := wrapU8i (z := (m : Int)) (Int.natCast_nonneg _)
    rw [e1, e2, e3, e4] at this
    exact this
  exact (put_spec (xc := 4) (hS.no X3) hrow hl).mono fun v w6 ⟨he, hS6, X6⟩ => ⟨he, rfl, hS6, (X3.mono fun _ h _ => h.elim).then X6 fun b hb => .inl hb⟩
end
end Go.Proofs.Ytidijnfkcpbkiaa

/- Journal: the program's Frame, the reference's, and lists of bytes held against each other. -/
set_option linter.unusedVariables false
set_option linter.unusedSimpArgs false
set_option maxRecDepth 20000
set_option maxHeartbeats 2000000
namespace Go.Proofs.Ytidijnfkcpbkiaa
open Go Go.Mx Go.Proofs
open W (OwnB GivesW)
/-- a list of bytes' rows, in memory. -/
structure BsRow (w : World) (o : Own) (a : Option Addr) (c : Nat) (l : List BS) : Prop where
  row : Row w o a (l.map BS.v)
  oks : ∀ x ∈ l, BSok w o x
  le : l.length ≤ c
section
variable {w w' w1 : World} {o o' o1 : Own} {q g n N : Nat} {K : Nat → Prop} {b : List UInt8} {a : Option Addr} {c : Nat} {l : List BS}
theorem BsRow.step (h : BsRow w o a c l) (s : Step K w o w' o') : BsRow w' o' a c l := ⟨h.row.step s, fun x hx => (h.oks x hx).step s, h.le⟩
theorem BsRow.nil (w : World) (o : Own) : BsRow w o none 0 [] := ⟨Row.nil _ _ _, fun x h => (by cases h), Nat.le_refl _⟩
/-- a list of one's own, that grows. -/
structure BsL (N : Nat) (w : World) (o : Own) (a : Option Addr) (c : Nat) (l : List BS) : Prop where
  row : LRow 30 1 N w o a l.length c (l.map BS.v)
  oks : ∀ x ∈ l, BSok w o x
theorem BsL.nil (N : Nat) (w : World) (o : Own) : BsL N w o none 0 [] := ⟨LRow.nil _ _ _ _ _, fun x h => (by cases h)⟩
theorem BsL.step (h : BsL N w o a c l) (s : Step K w o w' o') (hk : ∀ k, K k → k < N ∨ w.heap.size ≤ k) : BsL N w' o' a c l := ⟨h.row.step s hk, fun x hx => (h.oks x hx).step s⟩
theorem BsL.give {w0 : World} {o0 : Own} (h : BsL N w1 o1 a c l) (s : Step K w0 o0 w1 o1) (hN : w0.heap.size ≤ N) : BsRow w1 (grow w0 o0) a c l :=
  ⟨h.row.give s hN, fun x hx => ⟨(h.oks x hx).1.forget s, (h.oks x hx).2⟩, h.row.le⟩
theorem BsL.push (h : BsL N w o a c l) (ok : Tags w o) (hl : l.length < 1000000) {x : BS} (hx : BSok w o x) {ww : World} {qq : Nat} (X : Ext no w ww) (hb : Blk ww qq 30 [x.v]) (h1 : w.heap.size ≤ qq) (h2 : qq < ww.heap.size) (hN : N ≤ w.heap.size) :
    ∃ a' c' w' o', (Builtin.append_ #[31, 31] 31 #[.slice a l.length c, .slice (some (blk qq)) 1 1]).run Try.prog ww = .ok (.slice a' (l ++ [x]).length c') w' ∧ Step (fun j => N ≤ j) w o w' o' ∧ BsL N w' o' a' c' (l ++ [x]) := by
  have s1 := Step.of_no X ok
  have hr := h.row.step s1 fun k h => h.elim
  obtain ⟨i, hi, hz, hsz, hby⟩ := info_of inf30
  obtain ⟨a', c', w', o', hrun, s2, hrow, hX⟩ := hr.push (ty := 31) Try.underlying31 hi hz hsz hby rfl (by decide) s1.ok (p := qq) (by omega) h2 (xa := some (blk qq)) (m := 1) (xc := 1) (news := [x.v]) rfl (RowAt.of_blk hb) (fun u hu => by simp at hu; subst hu; rfl) (by omega) (by omega)
  refine ⟨a', c', w', o', by rw [List.length_append]; exact hrun, s1.none.trans s2, ⟨?_, fun y hy => ?_⟩⟩
  · rw [List.length_append, List.map_append]; exact hrow
  · rcases List.mem_append.1 hy with hy | hy
    · exact ((h.oks y hy).step s1).step s2
    · simp at hy; subst hy; exact (hx.step s1).step s2
theorem mk_sector (w : World) : ∃ w', (Instr.makeSlice 98 (.int .i64 0) (.int .i64 64)).run Try.prog w = .ok (.slice (some (blk w.heap.size)) 0 64) w' ∧ Ext no w w' ∧ Blk w' w.heap.size 5 (bytesV (List.replicate 64 0)) ∧ w.heap.size < w'.heap.size := by
  obtain ⟨i, hi, hz, hs, hb⟩ := info_of W.infU8
  have hmk := run_makeSlice (P := Try.prog) (w := w) 98 5 i _ Try.underlying98 hi hz .i64 .i64 0 64 (by omega) (by decide) (by rw [hs]; decide) (by rw [hb]; decide) (by decide)
  rw [hs] at hmk
  have hcells : (madeCells (Value.int .u8 0).cells ((64 : Int).toNat * 1)) = (bytesV (List.replicate 64 0)).toArray := by
    apply Array.ext'
    rw [show (Value.int .u8 0).cells = #[Value.int .u8 0] from rfl, toList_madeCells_one]
    show List.replicate 64 _ = bytesV _
    rw [bytesV, List.map_replicate]; rfl
  rw [hcells] at hmk
  exact ⟨_, hmk, (Ext.refl _ _).alloc _, Blk.new _ _ _, by simp⟩
theorem part_bound {t : Nat} (ht : t < partsN b.length) : 48 * t ≤ b.length ∧ b.length ≤ 4000 ∧ t < 84 := by
  have h84 := partsN_le b.length
  unfold partsN at ht
  split at ht
  · omega
  · split at ht <;> omega
theorem part_row {t : Nat} (hb : RowAt w a (bytesV b)) (hc : b.length ≤ c) : RowAt w (cutA a c (48 * t) 1) (bytesV (partL b t)) := by
  have h := (hb.cut (48 * t) c (by rw [bytesV_length]; exact hc)).take 48
  unfold partL bytesV
  rw [List.map_take, List.map_drop]
  exact h
theorem fFrame_spec (ok : Tags w o) (hb : RowAt w a (bytesV b)) (hc : b.length ≤ c) (hl : b.length < 1000000) (gen round seq : Nat) :
    Calls Try.prog 53 #[.int .u32 gen, .int .u32 round, .int .u32 seq, .slice a b.length c] w (fun z w' => ∃ o' oa oc, ∃ l : List BS, z = .returned (.tuple #[.slice oa l.length oc, .int .i64 (frameK gen round seq b).2]) ∧ Step no w o w' o' ∧ l.map BS.bs = (frameK gen round seq b).1 ∧ BsRow w' o' oa oc l) := by
  refine (journal_Frame.go gen round seq a b.length c (R := fun z w' => ∃ o' oa oc, ∃ l : List BS, z = (.tuple #[.slice oa l.length oc, .int .i64 (frameK gen round seq b).2]) ∧ Step no w o w' o' ∧ l.map BS.bs = (frameK gen round seq b).1 ∧ BsRow w' o' oa oc l) ?_).mono fun z w' ⟨u, he, o', oa, oc, l, hu, hw⟩ => ⟨o', oa, oc, l, by rw [he, hu], hw⟩
  unfold journal_Frame.N
  rw [parts_F, partsI_nat]
  have leaf : ∀ {w2 : World} (k : Int), frameK gen round seq b = ([], k) → Ext no w w2 → ∃ o' oa oc, ∃ l : List BS, Value.tuple #[.slice none 0 0, .int .i64 k] = (.tuple #[.slice oa l.length oc, .int .i64 (frameK gen round seq b).2]) ∧ Step no w o w2 o' ∧ l.map BS.bs = (frameK gen round seq b).1 ∧ BsRow w2 o' oa oc l := fun k hk X => ⟨_, none, 0, [], by rw [hk]; rfl, Step.of_no X ok, by rw [hk]; rfl, BsRow.nil _ _⟩
  have hp0 : (partsN b.length : Int) = 0 ↔ b.length > 4000 := by
    unfold partsN
    split
    · simp; omega
    · split
      · simp; omega
      · omega
  refine ⟨fun h w2 X => leaf 3 (by unfold frameK; rw [if_pos (hp0.1 h)]) X, fun h => ?_⟩
  have h4 : ¬ b.length > 4000 := fun h' => h (hp0.2 h')
  refine ⟨fun h1 w2 X => leaf 1 (by unfold frameK; rw [if_neg h4, if_pos (.inl (by omega))]) X, fun h1 => ⟨fun h2 w2 X => leaf 1 (by unfold frameK; rw [if_neg h4, if_pos (.inr (by omega))]) X, fun h2 w5 X5 => ?_⟩⟩
  have hK : frameK gen round seq b = (frameL gen round seq b, 0) := by unfold frameK; rw [if_neg h4, if_neg (by omega)]
  rw [hK]
  have s5 := Step.of_no X5 ok
  refine ⟨fun m vs w1 => ∃ (t : Nat) (o1 : Own) (oa : Option Addr) (oc : Nat) (l : List BS), vs = [.slice oa l.length oc, .int .i64 t] ∧ m + t = partsN b.length ∧ Step no w o w1 o1 ∧ BsL w.heap.size w1 o1 oa oc l ∧ l.map BS.bs = (List.range t).map (fun i => secL gen round seq i (partsN b.length) (partL b i)), partsN b.length, ⟨0, _, none, 0, [], rfl, rfl, s5, BsL.nil _ _ _, rfl⟩, ?_⟩
  rintro m w13 oa on oc i ⟨t, o13, oa1, oc1, l, hi, hm, s13, hL, hmap⟩
  simp only [List.cons.injEq, Value.slice.injEq, Value.int.injEq, true_and, and_true] at hi
  obtain ⟨⟨rfl, rfl, rfl⟩, rfl⟩ := hi
  refine ⟨fun ht => ?_, fun ht => ?_⟩
  rotate_left
  · have htt : t = partsN b.length := by omega
    subst htt
    exact ⟨_, oa, oc, l, rfl, Step.of_no (s13.ext.mono fun b ⟨_, _, h⟩ _ => h) ok, hmap, hL.give s13 (Nat.le_refl _)⟩
  have htl : t < partsN b.length := by omega
  obtain ⟨hb1, hb2, hb3⟩ := part_bound htl
  have hlen : l.length = t := by have := congrArg List.length hmap; simpa using this
  have hpl : (partL b t).length = min 48 (b.length - 48 * t) := by unfold partL; rw [List.length_take, List.length_drop]
  have hcut : Int.toNat (if (b.length : Int) < (48 : Int) * ((t : Int) + 1) then (b.length : Int) else (48 : Int) * ((t : Int) + 1)) - Int.toNat ((48 : Int) * (t : Int)) = (partL b t).length := by
    rw [hpl]; split <;> omega
  have hcut2 : Int.toNat ((48 : Int) * (t : Int)) = 48 * t := by omega
  refine ⟨by omega, by omega, by omega, by omega, by omega, by omega, by split <;> omega, by split <;> omega, by omega, by split <;> omega, ?_⟩
  rw [hcut, hcut2]
  have hb13 : RowAt w13 a (bytesV b) := hb.no (s13.ext.mono fun b ⟨_, _, h⟩ _ => h)
  obtain ⟨w16, hmk, X16, hbg, hg⟩ := mk_sector w13
  refine ⟨_, _, _, w16, hmk, fun w17 q X17 hbq hq hq' => ?_⟩
  have g17 := hbg.ext X17 id
  have hne : q ≠ w13.heap.size := by omega
  refine ⟨hbq.cana (i := 0) rfl, thenW_in fun w19 e19 => ?_⟩
  have SB19 : SB w19 q w13.heap.size [] := ⟨hbq.seti 0 rfl e19, g17.oth rfl (fun e => hne e.symm) e19, hne, by decide⟩
  have X19 : Ext no w13 w19 := (X16.trans X17).x_set (q := q) (i := 0) rfl (.inr (by omega)) e19
  have l16 := X16.size
  have own : ∀ {w2 w3 : World}, Ext no w13 w2 → Ext (fun b => b = q ∨ b = w13.heap.size) w2 w3 → Ext no w13 w3 := fun h k => h.then k fun b hb => .inr (by omega)
  intro w20 q21 X20 hb21 hq21 hq21'
  have lit1 : RowAt w20 (some (blk q21)) (bytesV [197]) := RowAt.of_blk hb21
  refine (put_spec (xc := 1) (SB19.no X20) lit1 (by decide)).mono fun u w23 ⟨he, S23, X23⟩ => ⟨he, ?_⟩
  have X23 := own (X19.trans X20) X23
  refine (number_spec (m := gen) S23 (by decide)).mono fun u w25 ⟨he, S25, X25⟩ => ⟨he, ?_⟩
  have X25 := own X23 X25
  refine (number_spec (m := round) S25 (by simp [be4])).mono fun u w27 ⟨he, S27, X27⟩ => ⟨he, ?_⟩
  have X27 := own X25 X27
  refine (number_spec (m := seq) S27 (by simp [be4])).mono fun u w29 ⟨he, S29, X29⟩ => ⟨he, ?_⟩
  have X29 := own X27 X29
  intro w30 q31 X30 hb31 hq31 hq31'
  have lit3 : RowAt w30 (some (blk q31)) (bytesV [UInt8.ofNat t, UInt8.ofNat (partsN b.length), UInt8.ofNat (partL b t).length]) := by
    have := RowAt.of_blk hb31
    rw [wrapU8i (Int.natCast_nonneg t), wrapU8i (Int.natCast_nonneg (partsN b.length)), wrapU8i (Int.natCast_nonneg (partL b t).length)] at this
    exact this
  refine (put_spec (xc := 3) (S29.no X30) lit3 (by simp [be4])).mono fun u w33 ⟨he, S33, X33⟩ => ⟨he, ?_⟩
  have X33 := own (X29.trans X30) X33
  have hple := partL_le b t
  refine (put_spec S33 (part_row (hb13.no X33) hc) (by simp [be4]; omega)).mono fun u w35 ⟨he, S35, X35⟩ => ⟨he, ?_⟩
  have X35 := own X33 X35
  refine ⟨_, _, _, S35.p.cella (i := 0) rfl, by decide, fun w38 q39 X38 hb39 hq39 hq39' => ?_⟩
  have s35 := Step.of_no X35 s13.ok
  have hsec : [] ++ [197] ++ be4 gen ++ be4 round ++ be4 seq ++ [UInt8.ofNat t, UInt8.ofNat (partsN b.length), UInt8.ofNat (partL b t).length] ++ partL b t ++ List.replicate (64 - ([] ++ [197] ++ be4 gen ++ be4 round ++ be4 seq ++ [UInt8.ofNat t, UInt8.ofNat (partsN b.length), UInt8.ofNat (partL b t).length] ++ partL b t).length) 0 = secL gen round seq t (partsN b.length) (partL b t) := by
    unfold secL headL
    have : 64 - ([] ++ [197] ++ be4 gen ++ be4 round ++ be4 seq ++ [UInt8.ofNat t, UInt8.ofNat (partsN b.length), UInt8.ofNat (partL b t).length] ++ partL b t).length = 48 - (partL b t).length := by simp [be4] <;> omega
    rw [this]; rfl
  have hbl := S35.b
  rw [hsec] at hbl
  have hsl := secL_len gen round seq t (partsN b.length) hple
  have okx : BSok w35 (grow w13 o13) ⟨some (blk w13.heap.size), 64, secL gen round seq t (partsN b.length) (partL b t)⟩ := ⟨Row.fresh (RowAt.of_blk hbl) fun ad ha => by cases ha; exact Nat.le_refl _, by show (secL _ _ _ _ _ _).length ≤ 64; omega⟩
  have hb39' : Blk w38 q39 30 [BS.v ⟨some (blk w13.heap.size), 64, secL gen round seq t (partsN b.length) (partL b t)⟩] := by
    unfold BS.v; rw [hsl]; exact hb39
  have l13 := s13.size
  obtain ⟨a', c', w41, o41, hr, s41, L41⟩ := (hL.step s35 fun _ h => h.elim).push s35.ok (by omega) okx X38 hb39' hq39 hq39' (by have := X35.size; omega)
  refine ⟨a', _, c', w41, hr, by omega, by omega, m - 1, by omega, t + 1, o41, a', c', _, ?_, by omega, (s13.trans s35).trans' s41 fun i hi => .inr hi, L41, ?_⟩
  · rfl
  · rw [List.map_append, hmap, List.range_succ, List.map_append]; rfl
end
end Go.Proofs.Ytidijnfkcpbkiaa

/- Journal: the reference's Frame; lists of bytes held against each other. -/
set_option linter.unusedVariables false
set_option linter.unusedSimpArgs false
set_option maxRecDepth 20000
set_option maxHeartbeats 2000000
namespace Go.Proofs.Ytidijnfkcpbkiaa
open Go Go.Mx Go.Proofs
open W (OwnB GivesW)
section
variable {w w' w1 : World} {o o' o1 : Own} {q g n N : Nat} {K : Nat → Prop} {b : List UInt8} {a : Option Addr} {c : Nat} {l : List BS}
theorem u8mod (k : Nat) : UInt8.ofNat (k % 256) = UInt8.ofNat k := by
  apply UInt8.toNat_inj.1
  simp
theorem four_spec {m : Nat} (hm : m < 4294967296) (w : World) :
    Calls Try.prog 65 #[.int .u32 m] w (fun z w' => ∃ q, z = .returned (.slice (some (blk q)) 4 4) ∧ w.heap.size ≤ q ∧ Ext no w w' ∧ Blk w' q 5 (bytesV (be4 m))) := by
  refine (cachetteref10_four.go m (R := fun z w' => ∃ q, z = (.slice (some (blk q)) 4 4) ∧ w.heap.size ≤ q ∧ Ext no w w' ∧ Blk w' q 5 (bytesV (be4 m))) ?_).mono fun z w' ⟨u, he, q, hu, hw⟩ => ⟨q, by rw [he, hu], hw⟩
  unfold cachetteref10_four.N
  intro w2 q3 X2 hb hq hq'
  have d : ∀ k : Nat, 0 < k → Int.tdiv (m : Int) (k : Int) = ((m / k : Nat) : Int) := fun k hk => by rw [Int.tdiv_eq_ediv_of_nonneg (by omega)]; rfl
  have e0 : IntKind.u32.wrap (Int.tdiv (m : Int) 16777216) = ((m / 16777216 : Nat) : Int) := by
    rw [show Int.tdiv (m : Int) 16777216 = _ from d 16777216 (by decide), IntKind.wrap_u32]; omega
  have e1 : Int.tmod (IntKind.u32.wrap (Int.tdiv (m : Int) 65536)) 256 = ((m / 65536 % 256 : Nat) : Int) := by
    rw [show Int.tdiv (m : Int) 65536 = _ from d 65536 (by decide), IntKind.wrap_u32, Int.tmod_eq_emod_of_nonneg (by omega)]; omega
  have e2 : Int.tmod (IntKind.u32.wrap (Int.tdiv (m : Int) 256)) 256 = ((m / 256 % 256 : Nat) : Int) := by
    rw [show Int.tdiv (m : Int) 256 = _ from d 256 (by decide), IntKind.wrap_u32, Int.tmod_eq_emod_of_nonneg (by omega)]; omega
  have e3 : Int.tmod (m : Int) 256 = ((m % 256 : Nat) : Int) := by rw [Int.tmod_eq_emod_of_nonneg (by omega)]; rfl
  refine ⟨q3, rfl, hq, X2, ?_⟩
  rw [e0, e1, e2, e3, wrapU8i (Int.natCast_nonneg _), wrapU8i (Int.natCast_nonneg _), wrapU8i (Int.natCast_nonneg _), wrapU8i (Int.natCast_nonneg _), Int.toNat_natCast, Int.toNat_natCast, Int.toNat_natCast, Int.toNat_natCast, u8mod, u8mod, u8mod] at hb
  exact hb
/-- one's own bytes, and more behind them. -/
theorem appB {w0 wi w1 : World} {N : Nat} {a xa : Option Addr} {c xc : Nat} {l x : List UInt8} (hB : OwnB N wi a c l) (X : Ext no w0 wi) (h0 : w0.heap.size ≤ N) (hN : N ≤ wi.heap.size) (hx : Ext no wi w1) (hO : RowAt w1 xa (bytesV x)) (hl : l.length + x.length ≤ 100000000) :
    ∃ a' c' w', (Builtin.append_ #[30, 30] 30 #[.slice a l.length c, .slice xa x.length xc]).run Try.prog w1 = .ok (.slice a' (l ++ x).length c') w' ∧ OwnB N w' a' c' (l ++ x) ∧ Ext no w0 w' ∧ N ≤ w'.heap.size := by
  obtain ⟨a', c', w', hr, hO2, hx2⟩ := (W.OwnB.no hB hx).append (t := 30) (ty := 30) Try.underlying30 (Nat.le_trans hN hx.size) (xc := xc) hO hl
  exact ⟨a', c', w', hr, hO2, (X.trans hx).then hx2 fun b hb => .inr (Nat.le_trans h0 hb), Nat.le_trans hN (Nat.le_trans hx.size hx2.size)⟩
/-- one's own bytes that are nobody's stay. -/
theorem own_stay {x : BS} (h : OwnB N w x.a x.c x.bs) (hr : BSok w o x) (hne : x.bs ≠ []) (s : Step K w o w' o') : OwnB N w' x.a x.c x.bs :=
  W.OwnB.ext h s.ext fun ad ha ⟨k, hk, _⟩ => by
    have h0 : bytesV x.bs ≠ [] := fun e => hne (by simpa [bytesV] using e)
    rw [hr.1.2 h0 ad ha] at hk; cases hk
theorem rFrame_spec (ok : Tags w o) (hb : RowAt w a (bytesV b)) (hc : b.length ≤ c) (hl : b.length < 1000000) {gen round seq : Nat} (hg : gen < 4294967296) (hro : round < 4294967296) (hse : seq < 4294967296) :
    Calls Try.prog 62 #[.int .u32 gen, .int .u32 round, .int .u32 seq, .slice a b.length c] w (fun z w' => ∃ o' oa oc, ∃ l : List BS, z = .returned (.tuple #[.slice oa l.length oc, .int .i64 (frameK gen round seq b).2]) ∧ Step no w o w' o' ∧ l.map BS.bs = (frameK gen round seq b).1 ∧ BsRow w' o' oa oc l ∧ ∀ x ∈ l, OwnB w.heap.size w' x.a x.c x.bs) := by
  refine (cachetteref10_Frame.go gen round seq a b.length c (R := fun z w' => ∃ o' oa oc, ∃ l : List BS, z = (.tuple #[.slice oa l.length oc, .int .i64 (frameK gen round seq b).2]) ∧ Step no w o w' o' ∧ l.map BS.bs = (frameK gen round seq b).1 ∧ BsRow w' o' oa oc l ∧ ∀ x ∈ l, OwnB w.heap.size w' x.a x.c x.bs) ?_).mono fun z w' ⟨u, he, o', oa, oc, l, hu, hw⟩ => ⟨o', oa, oc, l, by rw [he, hu], hw⟩
  unfold cachetteref10_Frame.N
  rw [refParts_F, partsI_nat]
  have leaf : ∀ {w2 : World} (k : Int), frameK gen round seq b = ([], k) → Ext no w w2 → ∃ o' oa oc, ∃ l : List BS, Value.tuple #[.slice none 0 0, .int .i64 k] = (.tuple #[.slice oa l.length oc, .int .i64 (frameK gen round seq b).2]) ∧ Step no w o w2 o' ∧ l.map BS.bs = (frameK gen round seq b).1 ∧ BsRow w2 o' oa oc l ∧ ∀ x ∈ l, OwnB w.heap.size w2 x.a x.c x.bs := fun k hk X => ⟨_, none, 0, [], by rw [hk]; rfl, Step.of_no X ok, by rw [hk]; rfl, BsRow.nil _ _, fun x hx => by cases hx⟩
  refine ⟨fun h => leaf 3 (by unfold frameK; rw [if_pos (by omega)]) (Ext.refl _ _), fun h => ?_⟩
  have h4 : ¬ b.length > 4000 := by omega
  refine ⟨fun h1 => leaf 1 (by unfold frameK; rw [if_neg h4, if_pos (.inl (by omega))]) (Ext.refl _ _), fun h1 => ⟨fun h2 => leaf 1 (by unfold frameK; rw [if_neg h4, if_pos (.inr (by omega))]) (Ext.refl _ _), fun h2 w5 X5 => ?_⟩⟩
  have hK : frameK gen round seq b = (frameL gen round seq b, 0) := by unfold frameK; rw [if_neg h4, if_neg (by omega)]
  rw [hK]
  have s5 := Step.of_no X5 ok
  refine ⟨fun m vs w1 => ∃ (t : Nat) (o1 : Own) (oa : Option Addr) (oc : Nat) (l : List BS), vs = [.slice oa l.length oc, .int .i64 t] ∧ m + t = partsN b.length ∧ Step no w o w1 o1 ∧ BsL w.heap.size w1 o1 oa oc l ∧ l.map BS.bs = (List.range t).map (fun i => secL gen round seq i (partsN b.length) (partL b i)) ∧ (∀ x ∈ l, OwnB w.heap.size w1 x.a x.c x.bs ∧ x.bs ≠ []), partsN b.length, ⟨0, _, none, 0, [], rfl, rfl, s5, BsL.nil _ _ _, rfl, fun x hx => by cases hx⟩, ?_⟩
  rintro m w13 oa on oc i ⟨t, o13, oa1, oc1, l, hi, hm, s13, hL, hmap, hown⟩
  simp only [List.cons.injEq, Value.slice.injEq, Value.int.injEq, true_and, and_true] at hi
  obtain ⟨⟨rfl, rfl, rfl⟩, rfl⟩ := hi
  refine ⟨fun ht => ?_, fun ht => ?_⟩
  rotate_left
  · have htt : t = partsN b.length := by omega
    subst htt
    exact ⟨_, oa, oc, l, rfl, Step.of_no (s13.ext.mono fun b ⟨_, _, h⟩ _ => h) ok, hmap, hL.give s13 (Nat.le_refl _), fun x hx => (hown x hx).1⟩
  have htl : t < partsN b.length := by omega
  obtain ⟨hb1, hb2, hb3⟩ := part_bound htl
  have hlen : l.length = t := by have := congrArg List.length hmap; simpa using this
  have hpl : (partL b t).length = min 48 (b.length - 48 * t) := by unfold partL; rw [List.length_take, List.length_drop]
  have hcut : Int.toNat (if (b.length : Int) < ((48 : Int) * (t : Int)) + 48 then (b.length : Int) else ((48 : Int) * (t : Int)) + 48) - Int.toNat ((48 : Int) * (t : Int)) = (partL b t).length := by
    rw [hpl]; split <;> omega
  have hcut2 : Int.toNat ((48 : Int) * (t : Int)) = 48 * t := by omega
  refine ⟨by omega, by omega, by omega, by omega, by omega, by omega, by split <;> omega, by split <;> omega, by omega, by split <;> omega, ?_⟩
  rw [hcut, hcut2]
  have hb13 : RowAt w13 a (bytesV b) := hb.no (s13.ext.mono fun b ⟨_, _, h⟩ _ => h)
  intro w15 q16 X15 hb16 hq16 hq16'
  have O15 : OwnB w13.heap.size w15 (some (blk q16)) 1 [197] := ⟨owns_of_blk hb16 rfl (by unfold maxLen; decide), fun ad ha => by cases ha; exact ⟨hq16, hq16'⟩⟩
  have l15 := X15.size
  have hple := partL_le b t
  refine (four_spec hg w15).mono fun u w19 ⟨q1, he, _, X19, hb1'⟩ => ⟨_, _, _, he, ?_⟩
  obtain ⟨a20, c20, w21, hr21, O21, X21, n21⟩ := appB (xc := 4) O15 X15 (Nat.le_refl _) l15 X19 (RowAt.of_blk hb1') (by simp [be4])
  refine ⟨a20, _, c20, w21, hr21, ?_⟩
  refine (four_spec hro w21).mono fun u w24 ⟨q2, he, _, X24, hb2'⟩ => ⟨_, _, _, he, ?_⟩
  obtain ⟨a25, c25, w26, hr26, O26, X26, n26⟩ := appB (xc := 4) O21 X21 (Nat.le_refl _) n21 X24 (RowAt.of_blk hb2') (by simp [be4])
  refine ⟨a25, _, c25, w26, hr26, ?_⟩
  refine (four_spec hse w26).mono fun u w29 ⟨q3, he, _, X29, hb3'⟩ => ⟨_, _, _, he, ?_⟩
  obtain ⟨a30, c30, w31, hr31, O31, X31, n31⟩ := appB (xc := 4) O26 X26 (Nat.le_refl _) n26 X29 (RowAt.of_blk hb3') (by simp [be4])
  refine ⟨a30, _, c30, w31, hr31, fun w32 q33 X32 hb33 hq33 hq33' => ?_⟩
  have lit3 : RowAt w32 (some (blk q33)) (bytesV [UInt8.ofNat t, UInt8.ofNat (partsN b.length), UInt8.ofNat (partL b t).length]) := by
    have := RowAt.of_blk hb33
    rw [wrapU8i (Int.natCast_nonneg t), wrapU8i (Int.natCast_nonneg (partsN b.length)), wrapU8i (Int.natCast_nonneg (partL b t).length)] at this
    exact this
  obtain ⟨a34, c34, w35, hr35, O35, X35, n35⟩ := appB (xc := 3) O31 X31 (Nat.le_refl _) n31 X32 lit3 (by simp [be4])
  refine ⟨a34, _, c34, w35, hr35, ?_⟩
  obtain ⟨a36, c36, w37, hr37, O37, X37, n37⟩ := appB (xc := c - 48 * t) O35 X35 (Nat.le_refl _) n35 (Ext.refl no w35) (part_row (t := t) (hb13.no X35) hc) (by simp [be4]; omega)
  refine ⟨a36, _, c36, w37, hr37, ?_⟩
  have hbase : [197] ++ be4 gen ++ be4 round ++ be4 seq ++ [UInt8.ofNat t, UInt8.ofNat (partsN b.length), UInt8.ofNat (partL b t).length] ++ partL b t = headL gen round seq t (partsN b.length) (partL b t).length ++ partL b t := by simp [headL]
  rw [hbase] at O37 ⊢
  have hbl : (headL gen round seq t (partsN b.length) (partL b t).length ++ partL b t).length = 16 + (partL b t).length := by rw [List.length_append, headL_len]
  generalize hB : headL gen round seq t (partsN b.length) (partL b t).length ++ partL b t = base at *
  refine ⟨fun m vs w1 => ∃ (k : Nat) (sa : Option Addr) (sc : Nat), vs = [.slice sa (base ++ List.replicate k 0).length sc] ∧ m + base.length + k = 64 ∧ OwnB w13.heap.size w1 sa sc (base ++ List.replicate k 0) ∧ Ext no w13 w1 ∧ w13.heap.size ≤ w1.heap.size, 64 - base.length, ⟨0, a36, c36, by simp, by omega, by simpa using O37, X37, n37⟩, ?_⟩
  rintro m2 w41 sa sn sc ⟨k, sa', sc', hi, hm2, O41, X41, n41⟩
  simp only [List.cons.injEq, Value.slice.injEq, and_true] at hi
  obtain ⟨rfl, rfl, rfl⟩ := hi
  have hlk : (base ++ List.replicate k (0 : UInt8)).length = base.length + k := by simp
  refine ⟨fun hlt w43 q44 X43 hb44 hq44 hq44' => ?_, fun hge w48 q49 X48 hb49 hq49 hq49' => ?_⟩
  · have lit0 : RowAt w43 (some (blk q44)) (bytesV [0]) := RowAt.of_blk hb44
    obtain ⟨a45, c45, w46, hr46, O46, X46, n46⟩ := appB (xc := 1) O41 X41 (Nat.le_refl _) n41 X43 lit0 (by rw [hlk]; simp; omega)
    have hk1 : base ++ List.replicate k (0 : UInt8) ++ [0] = base ++ List.replicate (k + 1) 0 := by rw [List.append_assoc, List.replicate_succ']
    rw [hk1] at hr46 O46
    exact ⟨a45, _, c45, w46, hr46, m2 - 1, by omega, k + 1, a45, c45, rfl, by omega, O46, X46, n46⟩
  · have hk : k = 48 - (partL b t).length := by omega
    have hsec : base ++ List.replicate k 0 = secL gen round seq t (partsN b.length) (partL b t) := by unfold secL; rw [hB, hk]
    rw [hsec] at O41 hb49
    have s41 := Step.of_no X41 s13.ok
    have okx : BSok w41 (grow w13 o13) ⟨sa, sc, secL gen round seq t (partsN b.length) (partL b t)⟩ := ⟨Row.fresh O41.row fun ad ha => (O41.fr ad ha).1, O41.le⟩
    have l13 := s13.size
    obtain ⟨a', c', w51, o51, hr, s51, L51⟩ := (hL.step s41 fun _ h => h.elim).push s41.ok (by omega) okx X48 hb49 hq49 hq49' (by have := X41.size; omega)
    refine ⟨a', _, c', w51, hr, by omega, by omega, m - 1, by omega, t + 1, o51, a', c', _, rfl, by omega, (s13.trans s41).trans' s51 fun i hi => .inr hi, L51, by rw [List.map_append, hmap, List.range_succ, List.map_append]; rfl, fun x hx => ?_⟩
    have hne : secL gen round seq t (partsN b.length) (partL b t) ≠ [] := fun e => by have := secL_len gen round seq t (partsN b.length) hple; rw [e] at this; cases this
    rcases List.mem_append.1 hx with hx | hx
    · obtain ⟨p1, p2⟩ := hown x hx
      have q1 := own_stay p1 (hL.oks x hx) p2 s41
      exact ⟨own_stay q1 ((hL.oks x hx).step s41) p2 s51, p2⟩
    · simp at hx; subst hx
      exact ⟨own_stay (x := ⟨sa, sc, secL gen round seq t (partsN b.length) (partL b t)⟩) ⟨O41.own, fun ad ha => ⟨Nat.le_trans l13 (O41.fr ad ha).1, (O41.fr ad ha).2⟩⟩ okx hne s51, hne⟩
theorem lists_spec {aa ba : Option Addr} {ac bc : Nat} {l1 l2 : List BS} (h1 : RowAt w aa (l1.map BS.v)) (h2 : RowAt w ba (l2.map BS.v)) (k1 : ∀ x ∈ l1, RowAt w x.a (bytesV x.bs) ∧ x.bs.length < 1000000) (k2 : ∀ x ∈ l2, RowAt w x.a (bytesV x.bs)) (hl : l1.length < 1000000) :
    Calls Try.prog 45 #[.slice aa l1.length ac, .slice ba l2.length bc] w (Ret (.bool (decide (l1.map BS.bs = l2.map BS.bs))) fun w' => Ext no w w') := by
  refine cachetteref10_Lists.run _ _ _ _ _ _ ?_
  unfold cachetteref10_Lists.N
  have leafF : l1.map BS.bs ≠ l2.map BS.bs → ∀ {w2 : World}, Ext no w w2 → Value.bool false = .bool (decide (l1.map BS.bs = l2.map BS.bs)) ∧ Ext no w w2 := fun h _ X => ⟨by rw [decide_eq_false h], X⟩
  refine ⟨fun h => leafF (fun e => h (by have := congrArg List.length e; simp at this; omega)) (Ext.refl _ _), fun h => ?_⟩
  have hll : l1.length = l2.length := by omega
  refine ⟨fun m vs w1 => ∃ t : Nat, vs = [.int .i64 t] ∧ m + t = l1.length ∧ Ext no w w1 ∧ (l1.map BS.bs).take t = (l2.map BS.bs).take t, l1.length, ⟨0, rfl, rfl, Ext.refl _ _, rfl⟩, ?_⟩
  rintro m w7 i ⟨t, hi, hm, X7, htk⟩
  simp only [List.cons.injEq, Value.int.injEq, true_and, and_true] at hi
  subst hi
  refine ⟨fun ht => ?_, fun ht => ?_⟩
  rotate_left
  · have htt : t = l1.length := by omega
    rw [List.take_of_length_le (by simp; omega), List.take_of_length_le (by simp; omega)] at htk
    exact ⟨by rw [decide_eq_true htk], X7⟩
  have ht1 : t < l1.length := by omega
  have ht2 : t < l2.length := by omega
  have g1 : l1[t]? = some l1[t] := List.getElem?_eq_getElem ht1
  have g2 : l2[t]? = some l2[t] := List.getElem?_eq_getElem ht2
  obtain ⟨x1, x2⟩ := k1 _ (List.getElem_mem ht1)
  have y1 := k2 _ (List.getElem_mem ht2)
  have m1 : (l1.map BS.v)[t]? = some (BS.v l1[t]) := by rw [List.getElem?_map, g1]; rfl
  have m2 : (l2.map BS.v)[t]? = some (BS.v l2[t]) := by rw [List.getElem?_map, g2]; rfl
  have n1 : (l1.map BS.bs)[t]? = some (l1[t]).bs := by rw [List.getElem?_map, g1]; rfl
  have n2 : (l2.map BS.bs)[t]? = some (l2[t]).bs := by rw [List.getElem?_map, g2]; rfl
  generalize l1[t] = u at *
  generalize l2[t] = v at *
  obtain ⟨ad, rfl, c1⟩ := h1 t _ m1
  obtain ⟨bd, rfl, c2⟩ := h2 t _ m2
  refine ⟨ad, rfl, by omega, by omega, u.a, u.bs.length, u.c, by rw [Int.toNat_natCast, Nat.mul_one]; exact X7.cell c1 id, bd, rfl, by omega, by omega, v.a, v.bs.length, v.c, by rw [Int.toNat_natCast, Nat.mul_one]; exact X7.cell c2 id, fun w9 X9 => ?_⟩
  refine (W.sameB_spec ((x1.no X7).no X9) ((y1.no X7).no X9) x2).mono fun z w18 ⟨he, X18⟩ => ⟨_, he, fun hs => ?_, fun hs => ?_⟩
  · have hne := of_decide_eq_false hs
    exact leafF (fun e => hne (by rw [e, n2] at n1; injection n1 with n1; exact n1.symm)) ((X7.trans X9).trans X18)
  · have heq := of_decide_eq_true hs
    exact ⟨by omega, by omega, m - 1, by omega, t + 1, rfl, by omega, (X7.trans X9).trans X18, by rw [List.take_add_one, List.take_add_one, htk, n1, n2, heq]⟩
end
end Go.Proofs.Ytidijnfkcpbkiaa

/- Journal: predicates of scans. -/
set_option linter.unusedVariables false
set_option linter.unusedSimpArgs false
set_option maxRecDepth 20000
set_option maxHeartbeats 2000000
namespace Go.Proofs.Ytidijnfkcpbkiaa
open Go Go.Mx Go.Proofs
/-- bytes.Equal -/
def bytes_Equal.M (a4 : Option Addr) (a5 : Nat) (a3 : Nat) (a2 : Option Addr) (a1 : Nat) (a0 : Nat) (R : Value → World → Prop) (w : World) : Prop :=
 ∃ (s3 : ByteArray), (convert 30 9 (.slice a4 a5 a3)).run Try.prog w = .ok (.string s3) w ∧
 ∃ (s4 : ByteArray), (convert 30 9 (.slice a2 a1 a0)).run Try.prog w = .ok (.string s4) w ∧
 R (.bool (s3.toList == s4.toList)) w

theorem bytes_Equal.eq (a1a : Option Addr) (a1n : Nat) (a1c : Nat) (b2a : Option Addr) (b2n : Nat) (b2c : Nat) (R : Value → World → Prop) (w : World) : mfunc Try.prog [] 64 [.slice a1a a1n a1c, .slice b2a b2n b2c] R w = bytes_Equal.M a1a a1n a1c b2a b2n b2c R w := by kernel_rfl
theorem bytes_Equal.ok (a4 : Option Addr) (a5 : Nat) (a3 : Nat) (a2 : Option Addr) (a1 : Nat) (a0 : Nat) {R : Value → World → Prop} {w : World} (h : bytes_Equal.M a4 a5 a3 a2 a1 a0 R w) : Calls Try.prog 64 #[.slice a4 a5 a3, .slice a2 a1 a0] w fun e w' => ∃ v, e = .returned v ∧ R v w' :=
  mfunc_ok follows (H := []) (args := [.slice a4 a5 a3, .slice a2 a1 a0]) (by rw [bytes_Equal.eq]; exact h)

def bytes_Equal.N (a4 : Option Addr) (a5 : Nat) (a3 : Nat) (a2 : Option Addr) (a1 : Nat) (a0 : Nat) (R : Value → World → Prop) (w : World) : Prop :=
 ∃ (s3 : ByteArray), (convert 30 9 (.slice a4 a5 a3)).run Try.prog w = .ok (.string s3) w ∧
 ∃ (s5 : ByteArray), (convert 30 9 (.slice a2 a1 a0)).run Try.prog w = .ok (.string s5) w ∧
 R (.bool (s3.toList == s5.toList)) w

theorem bytes_Equal.up (a5 : Option Addr) (a4 : Nat) (a3 : Nat) (a2 : Option Addr) (a1 : Nat) (a0 : Nat) {R : Value → World → Prop} {w : World} (h : bytes_Equal.N a5 a4 a3 a2 a1 a0 R w) : bytes_Equal.M a5 a4 a3 a2 a1 a0 R w := by
  unfold bytes_Equal.M
  unfold bytes_Equal.N at h
  obtain ⟨s3, a7, h⟩ := h
  refine ⟨s3, a7, ?_⟩
  obtain ⟨s5, a6, h⟩ := h
  refine ⟨s5, a6, ?_⟩
  exact h

theorem bytes_Equal.go (a4 : Option Addr) (a5 : Nat) (a3 : Nat) (a2 : Option Addr) (a1 : Nat) (a0 : Nat) {R : Value → World → Prop} {w : World} (h : bytes_Equal.N a4 a5 a3 a2 a1 a0 R w) : Calls Try.prog 64 #[.slice a4 a5 a3, .slice a2 a1 a0] w fun e w' => ∃ v, e = .returned v ∧ R v w' := bytes_Equal.ok a4 a5 a3 a2 a1 a0 (bytes_Equal.up a4 a5 a3 a2 a1 a0 h)
theorem bytes_Equal.run (a4 : Option Addr) (a5 : Nat) (a3 : Nat) (a2 : Option Addr) (a1 : Nat) (a0 : Nat) {V : Value} {Q : World → Prop} {w : World} (h : bytes_Equal.N a4 a5 a3 a2 a1 a0 (fun v w' => v = V ∧ Q w') w) : Calls Try.prog 64 #[.slice a4 a5 a3, .slice a2 a1 a0] w (Ret V Q) := (bytes_Equal.go a4 a5 a3 a2 a1 a0 h).mono fun e w' ⟨v, he, hv, hq⟩ => ⟨by rw [he, hv], hq⟩

/-- slices.EqualFunc[[][]byte,[][]byte,[]byte,[]byte] -/
def slices_EqualFunc_byte_byte_byte_byte.M (aj : Option Addr) (ad : Nat) (am : Nat) (ak : Option Addr) (ag : Nat) (an : Nat) (a1 : Nat) (a6 : Array Value) (a9 : Array Value) (R : Value → World → Prop) (w : World) : Prop :=
 bif (ad : Int) != (ag : Int) then (
 R (.bool false) w) else (
 ∃ (I0 : Nat → List Value → World → Prop) (m5 : Nat), I0 m5 [.int .i64 0] w ∧ ∀ (m6 : Nat) (a5 : World) (t4 : Int), I0 m6 [.int .i64 t4] a5 →
 bif decide (t4 < (ad : Int)) then (
 aj.elim False fun a8 =>
 0 ≤ (t4 : Int) ∧ (t4 : Int) < (ad : Int) ∧
 ∃ (ac : Option Addr) (af : Nat) (ae : Nat), a5.cell? (a8.add (Int.toNat t4 * 1)) = some (.slice ac af ae) ∧
 ak.elim False fun al =>
 0 ≤ (t4 : Int) ∧ (t4 : Int) < (ag : Int) ∧
 ∃ (a0 : Option Addr) (a2 : Nat) (a4 : Nat), a5.cell? (al.add (Int.toNat t4 * 1)) = some (.slice a0 a2 a4) ∧
 bif enters Try.prog a1 then Calls Try.prog a1 (a6.toList ++ ([.slice ac af ae, .slice a0 a2 a4] : List Value) ++ a9.toList).toArray a5 (fun ab a7 => ∃ (aa : Bool), ab = .returned (.bool aa) ∧
 bif !aa then (
 R (.bool false) a7) else (
 ∃ ai, ai < m6 ∧ I0 ai [.int .i64 (IntKind.i64.wrap (t4 + 1))] a7)) else (∃ (aa : Bool) (a3 : World), (externCall a1 (a6.toList ++ ([.slice ac af ae, .slice a0 a2 a4] : List Value) ++ a9.toList).toArray).run Try.prog a5 = .ok (.bool aa) a3 ∧
 bif !aa then (
 R (.bool false) a3) else (
 ∃ ah, ah < m6 ∧ I0 ah [.int .i64 (IntKind.i64.wrap (t4 + 1))] a3))) else (
 R (.bool true) a5))

theorem slices_EqualFunc_byte_byte_byte_byte.eq (s1a : Option Addr) (s1n : Nat) (s1c : Nat) (s2a : Option Addr) (s2n : Nat) (s2c : Nat) (eq3k : Nat) (eq3f : Array Value) (eq3g : Array Value) (R : Value → World → Prop) (w : World) : mfunc Try.prog [(0, [1, 2, 15, 16], [(17, (.one (.int .i64)))])] 63 [.slice s1a s1n s1c, .slice s2a s2n s2c, .func (.func eq3k) eq3f eq3g] R w = slices_EqualFunc_byte_byte_byte_byte.M s1a s1n s1c s2a s2n s2c eq3k eq3f eq3g R w := by kernel_rfl
theorem slices_EqualFunc_byte_byte_byte_byte.ok (a4 : Option Addr) (a6 : Nat) (a8 : Nat) (a5 : Option Addr) (a7 : Nat) (a3 : Nat) (a2 : Nat) (a1 : Array Value) (a0 : Array Value) {R : Value → World → Prop} {w : World} (h : slices_EqualFunc_byte_byte_byte_byte.M a4 a6 a8 a5 a7 a3 a2 a1 a0 R w) : Calls Try.prog 63 #[.slice a4 a6 a8, .slice a5 a7 a3, .func (.func a2) a1 a0] w fun e w' => ∃ v, e = .returned v ∧ R v w' :=
  mfunc_ok follows (H := [(0, [1, 2, 15, 16], [(17, (.one (.int .i64)))])]) (args := [.slice a4 a6 a8, .slice a5 a7 a3, .func (.func a2) a1 a0]) (by rw [slices_EqualFunc_byte_byte_byte_byte.eq]; exact h)

def slices_EqualFunc_byte_byte_byte_byte.N (ai : Option Addr) (a4 : Nat) (ak : Nat) (aj : Option Addr) (aa : Nat) (al : Nat) (a2 : Nat) (ac : Array Value) (ad : Array Value) (R : Value → World → Prop) (w : World) : Prop :=
 ((a4 : Int) ≠ (aa : Int) →
 R (.bool false) w) ∧
 ((a4 : Int) = (aa : Int) →
 ∃ (I0 : Nat → List Value → World → Prop) (m6 : Nat), I0 m6 [.int .i64 0] w ∧ ∀ (m7 : Nat) (a6 : World) (t5 : Int), I0 m7 [.int .i64 t5] a6 →
 (t5 < (a4 : Int) →
 ∃ ah : Addr, ai = some ah ∧
 0 ≤ (t5 : Int) ∧ (t5 : Int) < (a4 : Int) ∧
 ∃ (a9 : Option Addr) (a7 : Nat) (a5 : Nat), a6.cell? (ah.add (Int.toNat t5 * 1)) = some (.slice a9 a7 a5) ∧
 ∃ af : Addr, aj = some af ∧
 0 ≤ (t5 : Int) ∧ (t5 : Int) < (aa : Int) ∧
 ∃ (a0 : Option Addr) (a1 : Nat) (a3 : Nat), a6.cell? (af.add (Int.toNat t5 * 1)) = some (.slice a0 a1 a3) ∧
 enters Try.prog a2 = true ∧ Calls Try.prog a2 (ac.toList ++ ([.slice a9 a7 a5, .slice a0 a1 a3] : List Value) ++ ad.toList).toArray a6 (fun ae a8 => ∃ (ab : Bool), ae = .returned (.bool ab) ∧
 (ab = false →
 R (.bool false) a8) ∧
 (ab = true →
 (-9223372036854775808 : Int) ≤ (t5 + 1) ∧ (t5 + 1) < 9223372036854775808 ∧
 ∃ ag, ag < m7 ∧ I0 ag [.int .i64 (t5 + 1)] a8))) ∧
 ((a4 : Int) ≤ t5 →
 R (.bool true) a6))

theorem slices_EqualFunc_byte_byte_byte_byte.up (ag : Option Addr) (ak : Nat) (ai : Nat) (al : Option Addr) (ah : Nat) (aj : Nat) (a0 : Nat) (a1 : Array Value) (a2 : Array Value) {R : Value → World → Prop} {w : World} (h : slices_EqualFunc_byte_byte_byte_byte.N ag ak ai al ah aj a0 a1 a2 R w) : slices_EqualFunc_byte_byte_byte_byte.M ag ak ai al ah aj a0 a1 a2 R w := by
  unfold slices_EqualFunc_byte_byte_byte_byte.M
  unfold slices_EqualFunc_byte_byte_byte_byte.N at h
  refine bif_of (fun c4 => ?_) (fun c4 => ?_)
  · have h := h.1 (bne_t c4)
    exact h
  · have h := h.2 (bne_f c4)
    obtain ⟨I0, m6, h0, h⟩ := h
    refine ⟨I0, m6, h0, fun m7 ap t5 hI => ?_⟩
    have h := h m7 ap t5 hI
    refine bif_of (fun c9 => ?_) (fun c9 => ?_)
    · have h := h.1 (of_decide_eq_true c9)
      obtain ⟨aw, a3, h⟩ := h
      refine elim_some a3 ?_
      obtain ⟨ae, aa, h⟩ := h
      refine ⟨ae, aa, ?_⟩
      obtain ⟨af, ad, a9, ac, h⟩ := h
      refine ⟨af, ad, a9, ac, ?_⟩
      obtain ⟨av, a8, h⟩ := h
      refine elim_some a8 ?_
      obtain ⟨ae, aa, h⟩ := h
      refine ⟨ae, aa, ?_⟩
      obtain ⟨a5, a4, a7, ab, h⟩ := h
      refine ⟨a5, a4, a7, ab, ?_⟩
      obtain ⟨hen, h⟩ := h
      refine bif_tt hen ?_
      refine h.mono fun ao au h => ?_
      obtain ⟨am, he, h⟩ := h
      refine ⟨am, he, ?_⟩
      refine bif_of (fun a6 => ?_) (fun a6 => ?_)
      · have h := h.1 (not_t a6)
        exact h
      · have h := h.2 (not_f a6)
        obtain ⟨ar, an, h⟩ := h
        try rw [w64 ar an]
        obtain ⟨aq, hk, h⟩ := h
        exact ⟨aq, hk, h⟩
    · have h := h.2 (Int.not_lt.1 (of_decide_eq_false c9))
      exact h

theorem slices_EqualFunc_byte_byte_byte_byte.go (a4 : Option Addr) (a6 : Nat) (a8 : Nat) (a5 : Option Addr) (a7 : Nat) (a3 : Nat) (a2 : Nat) (a1 : Array Value) (a0 : Array Value) {R : Value → World → Prop} {w : World} (h : slices_EqualFunc_byte_byte_byte_byte.N a4 a6 a8 a5 a7 a3 a2 a1 a0 R w) : Calls Try.prog 63 #[.slice a4 a6 a8, .slice a5 a7 a3, .func (.func a2) a1 a0] w fun e w' => ∃ v, e = .returned v ∧ R v w' := slices_EqualFunc_byte_byte_byte_byte.ok a4 a6 a8 a5 a7 a3 a2 a1 a0 (slices_EqualFunc_byte_byte_byte_byte.up a4 a6 a8 a5 a7 a3 a2 a1 a0 h)
theorem slices_EqualFunc_byte_byte_byte_byte.run (a4 : Option Addr) (a6 : Nat) (a8 : Nat) (a5 : Option Addr) (a7 : Nat) (a3 : Nat) (a2 : Nat) (a1 : Array Value) (a0 : Array Value) {V : Value} {Q : World → Prop} {w : World} (h : slices_EqualFunc_byte_byte_byte_byte.N a4 a6 a8 a5 a7 a3 a2 a1 a0 (fun v w' => v = V ∧ Q w') w) : Calls Try.prog 63 #[.slice a4 a6 a8, .slice a5 a7 a3, .func (.func a2) a1 a0] w (Ret V Q) := (slices_EqualFunc_byte_byte_byte_byte.go a4 a6 a8 a5 a7 a3 a2 a1 a0 h).mono fun e w' ⟨v, he, hv, hq⟩ => ⟨by rw [he, hv], hq⟩

/-- journal.record -/
def journal_record.M (al : Option Addr) (b0 : Nat) (az : Nat) (b4 : Int) (b2 : Int) (R : Value → World → Prop) (w : World) : Prop :=
 bif (b0 : Int) == 0 then (
 R (.tuple #[.slice none 0 0, .int .i64 0]) w) else (
 al.elim False fun a4 =>
 0 ≤ (0 : Int) ∧ (0 : Int) < (b0 : Int) ∧
 ∃ (b8 : Option Addr) (b9 : Nat) (bc : Nat), w.cell? (a4.add (Int.toNat 0 * 1)) = some (.slice b8 b9 bc) ∧
 Calls Try.prog 58 #[.slice b8 b9 bc] w fun be ax => ∃ (ao : Bool), be = .returned (.bool ao) ∧
 bif !ao then (
 R (.tuple #[.slice none 0 0, .int .i64 0]) ax) else (
 al.elim False fun a9 =>
 0 ≤ (0 : Int) ∧ (0 : Int) < (b0 : Int) ∧
 ∃ (ai : Option Addr) (aj : Nat) (ar : Nat), ax.cell? (a9.add (Int.toNat 0 * 1)) = some (.slice ai aj ar) ∧
 ai.elim False fun bf =>
 0 ≤ (14 : Int) ∧ (14 : Int) < (aj : Int) ∧
 ∃ (ah : Int), ax.cell? (bf.add (Int.toNat 14 * 1)) = some (.int .u8 ah) ∧
 bif decide ((IntKind.i64.wrap ah) > (b0 : Int)) then (
 R (.tuple #[.slice none 0 0, .int .i64 0]) ax) else (
 (0 : Int) ≤ ((IntKind.i64.wrap ah) : Int) ∧ ((IntKind.i64.wrap ah) : Int) ≤ (az : Int) ∧
 ∃ (I0 : Nat → List Value → World → Prop) (bi : Nat), I0 bi [.slice none 0 0, .int .i64 (IntKind.i64.wrap ah), .int .i64 0] ax ∧ ∀ (ba : Nat) (ae : World) (ab : Option Addr) (ac : Nat) (aa : Nat) (am : Int) (ak : Int), I0 ba [.slice ab ac aa, .int .i64 am, .int .i64 ak] ae →
 bif decide (ak < (((Int.toNat (IntKind.i64.wrap ah)) - 0 : Nat) : Int)) then (
 (if az = 0 then al else Option.map (fun z : Addr => z.add (0 * 1)) al).elim False fun bg =>
 0 ≤ (ak : Int) ∧ (ak : Int) < (((Int.toNat (IntKind.i64.wrap ah)) - 0 : Nat) : Int) ∧
 ∃ (a6 : Option Addr) (ad : Nat) (a7 : Nat), ae.cell? (bg.add (Int.toNat ak * 1)) = some (.slice a6 ad a7) ∧
 Calls Try.prog 58 #[.slice a6 ad a7] ae fun b3 a8 => ∃ (ag : Bool), b3 = .returned (.bool ag) ∧
 bif !ag then (
 R (.tuple #[.slice none 0 0, .int .i64 0]) a8) else (
 a6.elim False fun bj =>
 0 ≤ (15 : Int) ∧ (15 : Int) < (ad : Int) ∧
 ∃ (bd : Int), a8.cell? (bj.add (Int.toNat 15 * 1)) = some (.int .u8 bd) ∧
 bif decide (bd > 48) then (
 R (.tuple #[.slice none 0 0, .int .i64 0]) a8) else (
 a6.elim False fun bh =>
 0 ≤ (15 : Int) ∧ (15 : Int) < (ad : Int) ∧
 ∃ (an : Int), a8.cell? (bh.add (Int.toNat 15 * 1)) = some (.int .u8 an) ∧
 (0 : Int) ≤ ((IntKind.i64.wrap ((16 : Int) + (IntKind.i64.wrap an))) : Int) ∧ ((IntKind.i64.wrap ((16 : Int) + (IntKind.i64.wrap an))) : Int) ≤ (a7 : Int) ∧ (0 : Int) ≤ (16 : Int) ∧ (16 : Int) ≤ ((IntKind.i64.wrap ((16 : Int) + (IntKind.i64.wrap an))) : Int) ∧
 ∃ (ay : Option Addr) (ap : Nat) (aq : Nat) (au : World), (Builtin.append_ #[30, 30] 30 #[.slice ab ac aa, .slice (if a7 = Int.toNat 16 then a6 else Option.map (fun z : Addr => z.add ((Int.toNat 16) * 1)) a6) ((Int.toNat (IntKind.i64.wrap ((16 : Int) + (IntKind.i64.wrap an)))) - (Int.toNat 16)) (a7 - (Int.toNat 16))]).run Try.prog a8 = .ok (.slice ay ap aq) au ∧
 ∃ bb, bb < ba ∧ I0 bb [.slice ay ap aq, .int .i64 am, .int .i64 (IntKind.i64.wrap (ak + 1))] au))) else (
 Calls Try.prog 59 #[.slice ai aj ar, .int .i64 5] ae fun b7 b1 => ∃ (af : Int), b7 = .returned (.int .u32 af) ∧
 Calls Try.prog 53 #[.int .u32 b4, .int .u32 af, .int .u32 b2, .slice ab ac aa] b1 fun b6 aw => ∃ (a3 : Option Addr) (a2 : Nat) (a1 : Nat) (a5 : Int), b6 = .returned (.tuple #[.slice a3 a2 a1, .int .i64 a5]) ∧
 bif a5 != 0 then (
 R (.tuple #[.slice none 0 0, .int .i64 0]) aw) else (
 (0 : Int) ≤ (am : Int) ∧ (am : Int) ≤ (az : Int) ∧
 Calls Try.prog 63 #[.slice a3 a2 a1, .slice (if az = 0 then al else Option.map (fun z : Addr => z.add (0 * 1)) al) ((Int.toNat am) - 0) (az - 0), .func (.func 64) #[] #[]] aw fun b5 av => ∃ (a0 : Bool), b5 = .returned (.bool a0) ∧
 bif !a0 then (
 R (.tuple #[.slice none 0 0, .int .i64 0]) av) else (
 R (.tuple #[.slice ab ac aa, .int .i64 am]) av))))))

theorem journal_record.eq (l1a : Option Addr) (l1n : Nat) (l1c : Nat) (gen2 : Int) (seq3 : Int) (R : Value → World → Prop) (w : World) : mfunc Try.prog [(0, [0, 1, 2, 8, 36, 37], [(6, (.one .slice)), (7, (.one (.int .i64))), (38, (.one (.int .i64)))])] 57 [.slice l1a l1n l1c, .int .u32 gen2, .int .u32 seq3] R w = journal_record.M l1a l1n l1c gen2 seq3 R w := by kernel_rfl
theorem journal_record.ok (a2 : Option Addr) (a3 : Nat) (a4 : Nat) (a0 : Int) (a1 : Int) {R : Value → World → Prop} {w : World} (h : journal_record.M a2 a3 a4 a0 a1 R w) : Calls Try.prog 57 #[.slice a2 a3 a4, .int .u32 a0, .int .u32 a1] w fun e w' => ∃ v, e = .returned v ∧ R v w' :=
  mfunc_ok follows (H := [(0, [0, 1, 2, 8, 36, 37], [(6, (.one .slice)), (7, (.one (.int .i64))), (38, (.one (.int .i64)))])]) (args := [.slice a2 a3 a4, .int .u32 a0, .int .u32 a1]) (by rw [journal_record.eq]; exact h)

def journal_record.N (be : Option Addr) (ao : Nat) (b6 : Nat) (b0 : Int) (ay : Int) (R : Value → World → Prop) (w : World) : Prop :=
 ((ao : Int) = 0 →
 R (.tuple #[.slice none 0 0, .int .i64 0]) w) ∧
 ((ao : Int) ≠ 0 →
 ∃ a5 : Addr, be = some a5 ∧
 (0 : Int) < (ao : Int) ∧
 ∃ (bd : Option Addr) (bc : Nat) (b9 : Nat), w.cell? (a5.add (Int.toNat 0 * 1)) = some (.slice bd bc b9) ∧
 Calls Try.prog 58 #[.slice bd bc b9] w fun bg a7 => ∃ (am : Bool), bg = .returned (.bool am) ∧
 (am = false →
 R (.tuple #[.slice none 0 0, .int .i64 0]) a7) ∧
 (am = true →
 (0 : Int) < (ao : Int) ∧
 ∃ (ak : Option Addr) (al : Nat) (ax : Nat), a7.cell? (a5.add (Int.toNat 0 * 1)) = some (.slice ak al ax) ∧
 ∃ b8 : Addr, ak = some b8 ∧
 (14 : Int) < (al : Int) ∧
 ∃ (a6 : Int), a7.cell? (b8.add (Int.toNat 14 * 1)) = some (.int .u8 a6) ∧
 (-9223372036854775808 : Int) ≤ a6 ∧ a6 < 9223372036854775808 ∧
 (a6 > (ao : Int) →
 R (.tuple #[.slice none 0 0, .int .i64 0]) a7) ∧
 (a6 ≤ (ao : Int) →
 (0 : Int) ≤ (a6 : Int) ∧ (a6 : Int) ≤ (b6 : Int) ∧ 
 ∃ (I0 : Nat → List Value → World → Prop) (bf : Nat), I0 bf [.slice none 0 0, .int .i64 a6, .int .i64 0] a7 ∧ ∀ (bb : Nat) (ag : World) (af : Option Addr) (ac : Nat) (ai : Nat) (an : Int) (ah : Int), I0 bb [.slice af ac ai, .int .i64 an, .int .i64 ah] ag →
 (ah < ((Int.toNat a6) : Int) →
 0 ≤ (ah : Int) ∧ (ah : Int) < ((Int.toNat a6) : Int) ∧
 ∃ (ab : Option Addr) (ad : Nat) (a8 : Nat), ag.cell? (a5.add (Int.toNat ah * 1)) = some (.slice ab ad a8) ∧
 Calls Try.prog 58 #[.slice ab ad a8] ag fun b3 a9 => ∃ (aa : Bool), b3 = .returned (.bool aa) ∧
 (aa = false →
 R (.tuple #[.slice none 0 0, .int .i64 0]) a9) ∧
 (aa = true →
 ∃ az : Addr, ab = some az ∧
 (15 : Int) < (ad : Int) ∧
 ∃ (b5 : Int), a9.cell? (az.add (Int.toNat 15 * 1)) = some (.int .u8 b5) ∧
 (b5 > 48 →
 R (.tuple #[.slice none 0 0, .int .i64 0]) a9) ∧
 (b5 ≤ 48 →
 (15 : Int) < (ad : Int) ∧
 ∃ (ae : Int), a9.cell? (az.add (Int.toNat 15 * 1)) = some (.int .u8 ae) ∧
 (-9223372036854775808 : Int) ≤ ae ∧ ae < 9223372036854775808 ∧
 (-9223372036854775808 : Int) ≤ ((16 : Int) + ae) ∧ ((16 : Int) + ae) < 9223372036854775808 ∧
 (0 : Int) ≤ (((16 : Int) + ae) : Int) ∧ (((16 : Int) + ae) : Int) ≤ (a8 : Int) ∧ (16 : Int) ≤ (((16 : Int) + ae) : Int) ∧ 
 ∃ (ar : Option Addr) (au : Nat) (aq : Nat) (ap : World), (Builtin.append_ #[30, 30] 30 #[.slice af ac ai, .slice (cutA ab a8 16 1) ((Int.toNat ((16 : Int) + ae)) - 16) (a8 - 16)]).run Try.prog a9 = .ok (.slice ar au aq) ap ∧
 (-9223372036854775808 : Int) ≤ (ah + 1) ∧ (ah + 1) < 9223372036854775808 ∧
 ∃ ba, ba < bb ∧ I0 ba [.slice ar au aq, .int .i64 an, .int .i64 (ah + 1)] ap))) ∧
 (((Int.toNat a6) : Int) ≤ ah →
 Calls Try.prog 59 #[.slice ak al ax, .int .i64 5] ag fun b7 b1 => ∃ (aj : Int), b7 = .returned (.int .u32 aj) ∧
 Calls Try.prog 53 #[.int .u32 b0, .int .u32 aj, .int .u32 ay, .slice af ac ai] b1 fun b4 av => ∃ (a2 : Option Addr) (a4 : Nat) (a3 : Nat) (a1 : Int), b4 = .returned (.tuple #[.slice a2 a4 a3, .int .i64 a1]) ∧
 (a1 ≠ 0 →
 R (.tuple #[.slice none 0 0, .int .i64 0]) av) ∧
 (a1 = 0 →
 (0 : Int) ≤ (an : Int) ∧ (an : Int) ≤ (b6 : Int) ∧ 
 Calls Try.prog 63 #[.slice a2 a4 a3, .slice be (Int.toNat an) b6, .func (.func 64) #[] #[]] av fun b2 aw => ∃ (a0 : Bool), b2 = .returned (.bool a0) ∧
 (a0 = false →
 R (.tuple #[.slice none 0 0, .int .i64 0]) aw) ∧
 (a0 = true →
 R (.tuple #[.slice af ac ai, .int .i64 an]) aw))))))

theorem journal_record.up (bb : Option Addr) (bc : Nat) (bd : Nat) (ab : Int) (aa : Int) {R : Value → World → Prop} {w : World} (h : journal_record.N bb bc bd ab aa R w) : journal_record.M bb bc bd ab aa R w := by
  unfold journal_record.M
  unfold journal_record.N at h
  refine bif_of (fun c4 => ?_) (fun c4 => ?_)
  · have h := h.1 (beq_t c4)
    exact h
  · have h := h.2 (beq_f c4)
    obtain ⟨a5, am, h⟩ := h
    refine elim_some am ?_
    obtain ⟨a3, h⟩ := h
    refine ⟨by decide, a3, ?_⟩
    obtain ⟨br, bq, bg, bp, h⟩ := h
    refine ⟨br, bq, bg, bp, ?_⟩
    refine h.mono fun c2 bh h => ?_
    obtain ⟨ba, he, h⟩ := h
    refine ⟨ba, he, ?_⟩
    refine bif_of (fun aw => ?_) (fun aw => ?_)
    · have h := h.1 (not_t aw)
      exact h
    · have h := h.2 (not_f aw)
      refine elim_some am ?_
      obtain ⟨a3, h⟩ := h
      refine ⟨by decide, a3, ?_⟩
      obtain ⟨ak, aq, b1, b6, h⟩ := h
      refine ⟨ak, aq, b1, b6, ?_⟩
      obtain ⟨c1, az, h⟩ := h
      refine elim_some az ?_
      obtain ⟨a3, h⟩ := h
      refine ⟨by decide, a3, ?_⟩
      obtain ⟨bf, aj, h⟩ := h
      refine ⟨bf, aj, ?_⟩
      obtain ⟨a8, a7, h⟩ := h
      try rw [w64 a8 a7]
      refine bif_of (fun ag => ?_) (fun ag => ?_)
      · have h := h.1 (of_decide_eq_true ag)
        exact h
      · have h := h.2 (Int.not_lt.1 (of_decide_eq_false ag))
        obtain ⟨ac, a9, h⟩ := h
        refine ⟨ac, a9, ?_⟩
        try rw [cut_zero]
        obtain ⟨I0, be, h0, h⟩ := h
        refine ⟨I0, be, h0, fun bl b7 b4 ar b8 bv c0 hI => ?_⟩
        have h := h bl b7 b4 ar b8 bv c0 hI
        refine bif_of (fun b2 => ?_) (fun b2 => ?_)
        · have h := h.1 (of_decide_eq_true b2)
          refine elim_some am ?_
          obtain ⟨a9, a3, h⟩ := h
          refine ⟨a9, a3, ?_⟩
          obtain ⟨ai, au, av, an, h⟩ := h
          refine ⟨ai, au, av, an, ?_⟩
          refine h.mono fun bn bt h => ?_
          obtain ⟨ad, he, h⟩ := h
          refine ⟨ad, he, ?_⟩
          refine bif_of (fun al => ?_) (fun al => ?_)
          · have h := h.1 (not_t al)
            exact h
          · have h := h.2 (not_f al)
            obtain ⟨c3, af, h⟩ := h
            refine elim_some af ?_
            obtain ⟨a3, h⟩ := h
            refine ⟨by decide, a3, ?_⟩
            obtain ⟨bs, ap, h⟩ := h
            refine ⟨bs, ap, ?_⟩
            refine bif_of (fun b3 => ?_) (fun b3 => ?_)
            · have h := h.1 (of_decide_eq_true b3)
              exact h
            · have h := h.2 (Int.not_lt.1 (of_decide_eq_false b3))
              refine elim_some af ?_
              obtain ⟨a3, h⟩ := h
              refine ⟨by decide, a3, ?_⟩
              obtain ⟨bz, b9, h⟩ := h
              refine ⟨bz, b9, ?_⟩
              obtain ⟨a8, a7, h⟩ := h
              try rw [w64 a8 a7]
              obtain ⟨a8, a7, h⟩ := h
              try rw [w64 a8 a7]
              obtain ⟨ac, a9, bu, h⟩ := h
              refine ⟨ac, a9, by decide, bu, ?_⟩
              obtain ⟨ax, ay, ao, ah, hr, h⟩ := h
              refine ⟨ax, ay, ao, ah, hr, ?_⟩
              obtain ⟨a8, a7, h⟩ := h
              try rw [w64 a8 a7]
              obtain ⟨bk, hk, h⟩ := h
              exact ⟨bk, hk, h⟩
        · have h := h.2 (Int.not_lt.1 (of_decide_eq_false b2))
          refine h.mono fun bi bj h => ?_
          obtain ⟨ae, he, h⟩ := h
          refine ⟨ae, he, ?_⟩
          refine h.mono fun bo bw h => ?_
          obtain ⟨a1, a4, a2, a6, he, h⟩ := h
          refine ⟨a1, a4, a2, a6, he, ?_⟩
          refine bif_of (fun b5 => ?_) (fun b5 => ?_)
          · have h := h.1 (bne_t b5)
            exact h
          · have h := h.2 (bne_f b5)
            obtain ⟨ac, a9, h⟩ := h
            refine ⟨ac, a9, ?_⟩
            try rw [cut_zero]
            refine h.mono fun bm bx h => ?_
            obtain ⟨a0, he, h⟩ := h
            refine ⟨a0, he, ?_⟩
            refine bif_of (fun b0 => ?_) (fun b0 => ?_)
            · have h := h.1 (not_t b0)
              exact h
            · have h := h.2 (not_f b0)
              exact h

theorem journal_record.go (a2 : Option Addr) (a3 : Nat) (a4 : Nat) (a0 : Int) (a1 : Int) {R : Value → World → Prop} {w : World} (h : journal_record.N a2 a3 a4 a0 a1 R w) : Calls Try.prog 57 #[.slice a2 a3 a4, .int .u32 a0, .int .u32 a1] w fun e w' => ∃ v, e = .returned v ∧ R v w' := journal_record.ok a2 a3 a4 a0 a1 (journal_record.up a2 a3 a4 a0 a1 h)
/-- journal.Scan -/
def journal_Scan.M (aw : Option Addr) (aq : Nat) (b4 : Nat) (al : Int) (R : Value → World → Prop) (w : World) : Prop :=
 ∃ (I0 : Nat → List Value → World → Prop) (m5 : Nat), I0 m5 [.slice none 0 0, .int .i64 0] w ∧ ∀ (m6 : Nat) (b2 : World) (a4 : Option Addr) (a0 : Nat) (a3 : Nat) (a2 : Int), I0 m6 [.slice a4 a0 a3, .int .i64 a2] b2 →
 (0 : Int) ≤ (a2 : Int) ∧ (a2 : Int) ≤ (aq : Int) ∧
 Calls Try.prog 57 #[.slice (if b4 = Int.toNat a2 then aw else Option.map (fun z : Addr => z.add ((Int.toNat a2) * 1)) aw) (aq - (Int.toNat a2)) (b4 - (Int.toNat a2)), .int .u32 al, .int .u32 (IntKind.u32.wrap (a0 : Int))] b2 fun ar ah => ∃ (a8 : Option Addr) (a7 : Nat) (a6 : Nat) (a5 : Int), ar = .returned (.tuple #[.slice a8 a7 a6, .int .i64 a5]) ∧
 bif a5 == 0 then (
 ∃ (I2 : Nat → List Value → World → Prop) (b6 : Nat), I2 b6 [.int .u32 0, .int .i64 0] ah ∧ ∀ (ap : Nat) (ad : World) (a1 : Int) (af : Int), I2 ap [.int .u32 a1, .int .i64 af] ad →
 bif decide (af < (aq : Int)) then (
 aw.elim False fun b7 =>
 0 ≤ (af : Int) ∧ (af : Int) < (aq : Int) ∧
 ∃ (ac : Option Addr) (ab : Nat) (aa : Nat), ad.cell? (b7.add (Int.toNat af * 1)) = some (.slice ac ab aa) ∧
 Calls Try.prog 58 #[.slice ac ab aa] ad fun av aj => ∃ (ae : Bool), av = .returned (.bool ae) ∧
 bif ae then (
 Calls Try.prog 59 #[.slice ac ab aa, .int .i64 1] aj fun au ak => ∃ (ag : Int), au = .returned (.int .u32 ag) ∧
 bif ag == al then (
 Calls Try.prog 59 #[.slice ac ab aa, .int .i64 5] ak fun ay ax => ∃ (a9 : Int), ay = .returned (.int .u32 a9) ∧
 ∃ b3, b3 < ap ∧ I2 b3 [.int .u32 (if (a9 : Int) > a1 then a9 else a1), .int .i64 (IntKind.i64.wrap (af + 1))] ax) else (
 ∃ b1, b1 < ap ∧ I2 b1 [.int .u32 a1, .int .i64 (IntKind.i64.wrap (af + 1))] ak)) else (
 ∃ b0, b0 < ap ∧ I2 b0 [.int .u32 a1, .int .i64 (IntKind.i64.wrap (af + 1))] aj)) else (
 R (.tuple #[.slice a4 a0 a3, .int .i64 a2, .int .u32 a1]) ad)) else (
 thenW (ah.alloc (.cells #[.slice a8 a7 a6] 30)) fun az =>
 ∃ (am : Option Addr) (an : Nat) (ao : Nat) (ai : World), (Builtin.append_ #[31, 31] 31 #[.slice a4 a0 a3, .slice (some (blk ah.heap.size)) 1 1]).run Try.prog az = .ok (.slice am an ao) ai ∧
 ∃ b5, b5 < m6 ∧ I0 b5 [.slice am an ao, .int .i64 (IntKind.i64.wrap (a2 + a5))] ai)

theorem journal_Scan.eq (l1a : Option Addr) (l1n : Nat) (l1c : Nat) (gen2 : Int) (R : Value → World → Prop) (w : World) : mfunc Try.prog [(0, [0, 1, 6], [(4, (.one .slice)), (5, (.one (.int .i64)))]), (2, [1, 4, 5, 32, 33], [(6, (.one (.int .u32))), (34, (.one (.int .i64)))])] 52 [.slice l1a l1n l1c, .int .u32 gen2] R w = journal_Scan.M l1a l1n l1c gen2 R w := by kernel_rfl
theorem journal_Scan.ok (a2 : Option Addr) (a3 : Nat) (a1 : Nat) (a0 : Int) {R : Value → World → Prop} {w : World} (h : journal_Scan.M a2 a3 a1 a0 R w) : Calls Try.prog 52 #[.slice a2 a3 a1, .int .u32 a0] w fun e w' => ∃ v, e = .returned v ∧ R v w' :=
  mfunc_ok follows (H := [(0, [0, 1, 6], [(4, (.one .slice)), (5, (.one (.int .i64)))]), (2, [1, 4, 5, 32, 33], [(6, (.one (.int .u32))), (34, (.one (.int .i64)))])]) (args := [.slice a2 a3 a1, .int .u32 a0]) (by rw [journal_Scan.eq]; exact h)

def journal_Scan.N (b4 : Option Addr) (aq : Nat) (b6 : Nat) (aj : Int) (R : Value → World → Prop) (w : World) : Prop :=
 ∃ (I0 : Nat → List Value → World → Prop) (m5 : Nat), I0 m5 [.slice none 0 0, .int .i64 0] w ∧ ∀ (m6 : Nat) (b5 : World) (a5 : Option Addr) (a1 : Nat) (a4 : Nat) (a3 : Int), I0 m6 [.slice a5 a1 a4, .int .i64 a3] b5 →
 (0 : Int) ≤ (a3 : Int) ∧ (a3 : Int) ≤ (aq : Int) ∧ 
 Calls Try.prog 57 #[.slice (cutA b4 b6 (Int.toNat a3) 1) (aq - (Int.toNat a3)) (b6 - (Int.toNat a3)), .int .u32 aj, .int .u32 (IntKind.u32.wrap (a1 : Int))] b5 fun av ai => ∃ (a8 : Option Addr) (a7 : Nat) (a6 : Nat) (a2 : Int), av = .returned (.tuple #[.slice a8 a7 a6, .int .i64 a2]) ∧
 (a2 = 0 →
 ∃ (I2 : Nat → List Value → World → Prop) (b8 : Nat), I2 b8 [.int .u32 0, .int .i64 0] ai ∧ ∀ (au : Nat) (ae : World) (a0 : Int) (a9 : Int), I2 au [.int .u32 a0, .int .i64 a9] ae →
 (a9 < (aq : Int) →
 ∃ b2 : Addr, b4 = some b2 ∧
 0 ≤ (a9 : Int) ∧ (a9 : Int) < (aq : Int) ∧
 ∃ (ad : Option Addr) (af : Nat) (ag : Nat), ae.cell? (b2.add (Int.toNat a9 * 1)) = some (.slice ad af ag) ∧
 Calls Try.prog 58 #[.slice ad af ag] ae fun aw ak => ∃ (ab : Bool), aw = .returned (.bool ab) ∧
 (ab = true →
 Calls Try.prog 59 #[.slice ad af ag, .int .i64 1] ak fun az am => ∃ (ac : Int), az = .returned (.int .u32 ac) ∧
 (ac = aj →
 Calls Try.prog 59 #[.slice ad af ag, .int .i64 5] am fun ay ax => ∃ (aa : Int), ay = .returned (.int .u32 aa) ∧
 (-9223372036854775808 : Int) ≤ (a9 + 1) ∧ (a9 + 1) < 9223372036854775808 ∧
 ∃ b3, b3 < au ∧ I2 b3 [.int .u32 (if (aa : Int) > a0 then aa else a0), .int .i64 (a9 + 1)] ax) ∧
 (ac ≠ aj →
 (-9223372036854775808 : Int) ≤ (a9 + 1) ∧ (a9 + 1) < 9223372036854775808 ∧
 ∃ b7, b7 < au ∧ I2 b7 [.int .u32 a0, .int .i64 (a9 + 1)] am)) ∧
 (ab = false →
 (-9223372036854775808 : Int) ≤ (a9 + 1) ∧ (a9 + 1) < 9223372036854775808 ∧
 ∃ b1, b1 < au ∧ I2 b1 [.int .u32 a0, .int .i64 (a9 + 1)] ak)) ∧
 ((aq : Int) ≤ a9 →
 R (.tuple #[.slice a5 a1 a4, .int .i64 a3, .int .u32 a0]) ae)) ∧
 (a2 ≠ 0 →
 ∀ (ah : World) (ar : Nat), Ext no ai ah → Blk ah ar 30 [.slice a8 a7 a6] → ai.heap.size ≤ ar → ar < ah.heap.size →
 ∃ (al : Option Addr) (an : Nat) (ao : Nat) (ap : World), (Builtin.append_ #[31, 31] 31 #[.slice a5 a1 a4, .slice (some (blk ar)) 1 1]).run Try.prog ah = .ok (.slice al an ao) ap ∧
 (-9223372036854775808 : Int) ≤ (a3 + a2) ∧ (a3 + a2) < 9223372036854775808 ∧
 ∃ b0, b0 < m6 ∧ I0 b0 [.slice al an ao, .int .i64 (a3 + a2)] ap)

theorem journal_Scan.up (az : Option Addr) (b0 : Nat) (b1 : Nat) (ab : Int) {R : Value → World → Prop} {w : World} (h : journal_Scan.N az b0 b1 ab R w) : journal_Scan.M az b0 b1 ab R w := by
  unfold journal_Scan.M
  unfold journal_Scan.N at h
  obtain ⟨I0, m5, h0, h⟩ := h
  refine ⟨I0, m5, h0, fun m6 bd a1 a2 a0 ac hI => ?_⟩
  have h := h m6 bd a1 a2 a0 ac hI
  obtain ⟨b6, aw, h⟩ := h
  refine ⟨b6, aw, ?_⟩
  refine h.mono fun b5 a8 h => ?_
  obtain ⟨a5, a4, a3, a7, he, h⟩ := h
  refine ⟨a5, a4, a3, a7, he, ?_⟩
  refine bif_of (fun ay => ?_) (fun ay => ?_)
  · have h := h.1 (beq_t ay)
    obtain ⟨I2, b4, h0, h⟩ := h
    refine ⟨I2, b4, h0, fun bh ak a6 bc hI => ?_⟩
    have h := h bh ak a6 bc hI
    refine bif_of (fun ag => ?_) (fun ag => ?_)
    · have h := h.1 (of_decide_eq_true ag)
      obtain ⟨bj, ar, h⟩ := h
      refine elim_some ar ?_
      obtain ⟨aw, be, h⟩ := h
      refine ⟨aw, be, ?_⟩
      obtain ⟨aj, al, an, ax, h⟩ := h
      refine ⟨aj, al, an, ax, ?_⟩
      refine h.mono fun b7 b2 h => ?_
      obtain ⟨ae, he, h⟩ := h
      refine ⟨ae, he, ?_⟩
      refine bif_of (fun ah => ?_) (fun ah => ?_)
      · have h := h.1 ah
        refine h.mono fun bg ba h => ?_
        obtain ⟨af, he, h⟩ := h
        refine ⟨af, he, ?_⟩
        refine bif_of (fun ai => ?_) (fun ai => ?_)
        · have h := h.1 (beq_t ai)
          refine h.mono fun bf bb h => ?_
          obtain ⟨ad, he, h⟩ := h
          refine ⟨ad, he, ?_⟩
          obtain ⟨aa, a9, h⟩ := h
          try rw [w64 aa a9]
          obtain ⟨b9, hk, h⟩ := h
          exact ⟨b9, hk, h⟩
        · have h := h.2 (beq_f ai)
          obtain ⟨aa, a9, h⟩ := h
          try rw [w64 aa a9]
          obtain ⟨bi, hk, h⟩ := h
          exact ⟨bi, hk, h⟩
      · have h := h.2 ah
        obtain ⟨aa, a9, h⟩ := h
        try rw [w64 aa a9]
        obtain ⟨b8, hk, h⟩ := h
        exact ⟨b8, hk, h⟩
    · have h := h.2 (Int.not_lt.1 (of_decide_eq_false ag))
      exact h
  · have h := h.2 (beq_f ay)
    refine thenW_in fun aq ao => ?_
    have h := h aq a8.heap.size ((Ext.refl no a8).x_alloc ao) (Blk.of_new ao) ((Ext.refl no a8)).size (size_lt_alloc ao)
    obtain ⟨am, ap, au, av, hr, h⟩ := h
    refine ⟨am, ap, au, av, hr, ?_⟩
    obtain ⟨aa, a9, h⟩ := h
    try rw [w64 aa a9]
    obtain ⟨b3, hk, h⟩ := h
    exact ⟨b3, hk, h⟩

theorem journal_Scan.go (a2 : Option Addr) (a3 : Nat) (a1 : Nat) (a0 : Int) {R : Value → World → Prop} {w : World} (h : journal_Scan.N a2 a3 a1 a0 R w) : Calls Try.prog 52 #[.slice a2 a3 a1, .int .u32 a0] w fun e w' => ∃ v, e = .returned v ∧ R v w' := journal_Scan.ok a2 a3 a1 a0 (journal_Scan.up a2 a3 a1 a0 h)
/-- cachetteref10.stands -/
def cachetteref10_stands.M (ak : Option Addr) (ac : Nat) (c9 : Nat) (bf : Int) (be : Int) (R : Value → World → Prop) (w : World) : Prop :=
 bif (ac : Int) == 0 then (
 R (.tuple #[.slice none 0 0, .int .i64 0]) w) else (
 ak.elim False fun a4 =>
 0 ≤ (0 : Int) ∧ (0 : Int) < (ac : Int) ∧
 ∃ (bv : Option Addr) (bp : Nat) (c3 : Nat), w.cell? (a4.add (Int.toNat 0 * 1)) = some (.slice bv bp c3) ∧
 bif (bp : Int) != 64 then (
 R (.tuple #[.slice none 0 0, .int .i64 0]) w) else (
 thenW (w.drew) fun bb =>
 ak.elim False fun a7 =>
 0 ≤ (0 : Int) ∧ (0 : Int) < (ac : Int) ∧
 ∃ (bl : Option Addr) (bz : Nat) (bc : Nat), bb.cell? (a7.add (Int.toNat 0 * 1)) = some (.slice bl bz bc) ∧
 (0 : Int) ≤ (9 : Int) ∧ (9 : Int) ≤ (bc : Int) ∧ (0 : Int) ≤ (5 : Int) ∧ (5 : Int) ≤ (9 : Int) ∧
 ak.elim False fun a9 =>
 0 ≤ (0 : Int) ∧ (0 : Int) < (ac : Int) ∧
 ∃ (ap : Option Addr) (aq : Nat) (b0 : Nat), bb.cell? (a9.add (Int.toNat 0 * 1)) = some (.slice ap aq b0) ∧
 ap.elim False fun bq =>
 0 ≤ (14 : Int) ∧ (14 : Int) < (aq : Int) ∧
 ∃ (aj : Int), bb.cell? (bq.add (Int.toNat 14 * 1)) = some (.int .u8 aj) ∧
 Calls Try.prog 56 #[.slice (if bc = Int.toNat 5 then bl else Option.map (fun z : Addr => z.add ((Int.toNat 5) * 1)) bl) ((Int.toNat 9) - (Int.toNat 5)) (bc - (Int.toNat 5))] bb fun bg a8 => ∃ (a1 : Int), bg = .returned (.int .u32 a1) ∧
 a8.cell? (bq.add (Int.toNat 14 * 1)) = some (.int .u8 aj) ∧
 a8.cell? (a9.add (Int.toNat 0 * 1)) = some (.slice ap aq b0) ∧
 bif a1 == 0 then (
 R (.tuple #[.slice none 0 0, .int .i64 0]) a8) else (
 bif (IntKind.i64.wrap aj) == 0 then (
 R (.tuple #[.slice none 0 0, .int .i64 0]) a8) else (
 bif decide ((IntKind.i64.wrap aj) > (ac : Int)) then (
 R (.tuple #[.slice none 0 0, .int .i64 0]) a8) else (
 ∃ (I0 : Nat → List Value → World → Prop) (c7 : Nat), I0 c7 [.slice none 0 0, .int .i64 0] a8 ∧ ∀ (bo : Nat) (a2 : World) (ai : Option Addr) (ad : Nat) (ah : Nat) (a5 : Int), I0 bo [.slice ai ad ah, .int .i64 a5] a2 →
 bif decide (a5 < (IntKind.i64.wrap aj)) then (
 ak.elim False fun c1 =>
 0 ≤ (a5 : Int) ∧ (a5 : Int) < (ac : Int) ∧
 ∃ (bd : Option Addr) (b8 : Nat) (bk : Nat), a2.cell? (c1.add (Int.toNat a5 * 1)) = some (.slice bd b8 bk) ∧
 bif (b8 : Int) != 64 then (
 R (.tuple #[.slice none 0 0, .int .i64 0]) a2) else (
 ak.elim False fun bw =>
 0 ≤ (a5 : Int) ∧ (a5 : Int) < (ac : Int) ∧
 ∃ (b4 : Option Addr) (az : Nat) (bm : Nat), a2.cell? (bw.add (Int.toNat a5 * 1)) = some (.slice b4 az bm) ∧
 b4.elim False fun c2 =>
 0 ≤ (15 : Int) ∧ (15 : Int) < (az : Int) ∧
 ∃ (bs : Int), a2.cell? (c2.add (Int.toNat 15 * 1)) = some (.int .u8 bs) ∧
 bif decide (bs > 48) then (
 R (.tuple #[.slice none 0 0, .int .i64 0]) a2) else (
 thenW (a2.drew) fun af =>
 ak.elim False fun c6 =>
 0 ≤ (a5 : Int) ∧ (a5 : Int) < (ac : Int) ∧
 ∃ (am : Option Addr) (bn : Nat) (ae : Nat), af.cell? (c6.add (Int.toNat a5 * 1)) = some (.slice am bn ae) ∧
 ak.elim False fun c0 =>
 0 ≤ (a5 : Int) ∧ (a5 : Int) < (ac : Int) ∧
 ∃ (b6 : Option Addr) (b5 : Nat) (bi : Nat), af.cell? (c0.add (Int.toNat a5 * 1)) = some (.slice b6 b5 bi) ∧
 b6.elim False fun c5 =>
 0 ≤ (15 : Int) ∧ (15 : Int) < (b5 : Int) ∧
 ∃ (b1 : Int), af.cell? (c5.add (Int.toNat 15 * 1)) = some (.int .u8 b1) ∧
 (0 : Int) ≤ ((IntKind.i64.wrap ((16 : Int) + (IntKind.i64.wrap b1))) : Int) ∧ ((IntKind.i64.wrap ((16 : Int) + (IntKind.i64.wrap b1))) : Int) ≤ (ae : Int) ∧ (0 : Int) ≤ (16 : Int) ∧ (16 : Int) ≤ ((IntKind.i64.wrap ((16 : Int) + (IntKind.i64.wrap b1))) : Int) ∧
 ∃ (ax : Option Addr) (ar : Nat) (au : Nat) (b7 : World), (Builtin.append_ #[30, 30] 30 #[.slice ai ad ah, .slice (if ae = Int.toNat 16 then am else Option.map (fun z : Addr => z.add ((Int.toNat 16) * 1)) am) ((Int.toNat (IntKind.i64.wrap ((16 : Int) + (IntKind.i64.wrap b1)))) - (Int.toNat 16)) (ae - (Int.toNat 16))]).run Try.prog af = .ok (.slice ax ar au) b7 ∧
 ∃ bt, bt < bo ∧ I0 bt [.slice ax ar au, .int .i64 (IntKind.i64.wrap (a5 + 1))] b7))) else (
 Calls Try.prog 62 #[.int .u32 bf, .int .u32 a1, .int .u32 be, .slice ai ad ah] a2 fun bj ao => ∃ (a3 : Option Addr) (a0 : Nat) (aa : Nat) (a6 : Int), bj = .returned (.tuple #[.slice a3 a0 aa, .int .i64 a6]) ∧
 bif a6 != 0 then (
 R (.tuple #[.slice none 0 0, .int .i64 0]) ao) else (
 bif (a0 : Int) != (IntKind.i64.wrap aj) then (
 R (.tuple #[.slice none 0 0, .int .i64 0]) ao) else (
 ∃ (I2 : Nat → List Value → World → Prop) (c4 : Nat), I2 c4 [.int .i64 0] ao ∧ ∀ (br : Nat) (an : World) (ag : Int), I2 br [.int .i64 ag] an →
 bif decide (ag < (IntKind.i64.wrap aj)) then (
 thenW (an.drew) fun al =>
 a3.elim False fun bx =>
 0 ≤ (ag : Int) ∧ (ag : Int) < (a0 : Int) ∧
 ∃ (b9 : Option Addr) (b3 : Nat) (av : Nat), al.cell? (bx.add (Int.toNat ag * 1)) = some (.slice b9 b3 av) ∧
 ak.elim False fun c8 =>
 0 ≤ (ag : Int) ∧ (ag : Int) < (ac : Int) ∧
 ∃ (ay : Option Addr) (ba : Nat) (b2 : Nat), al.cell? (c8.add (Int.toNat ag * 1)) = some (.slice ay ba b2) ∧
 Calls Try.prog 21 #[.slice b9 b3 av, .slice ay ba b2] al fun bh aw => ∃ (ab : Bool), bh = .returned (.bool ab) ∧
 bif !ab then (
 R (.tuple #[.slice none 0 0, .int .i64 0]) aw) else (
 ∃ bu, bu < br ∧ I2 bu [.int .i64 (IntKind.i64.wrap (ag + 1))] aw)) else (
 R (.tuple #[.slice ai ad ah, .int .i64 (IntKind.i64.wrap aj)]) an)))))))))

theorem cachetteref10_stands.eq (l1a : Option Addr) (l1n : Nat) (l1c : Nat) (gen2 : Int) (seq3 : Int) (R : Value → World → Prop) (w : World) : mfunc Try.prog [(0, [0, 1, 2, 8, 9], [(10, (.one .slice)), (11, (.one (.int .i64)))]), (2, [0, 9, 10, 12], [(14, (.one (.int .i64)))])] 55 [.slice l1a l1n l1c, .int .u32 gen2, .int .u32 seq3] R w = cachetteref10_stands.M l1a l1n l1c gen2 seq3 R w := by kernel_rfl
theorem cachetteref10_stands.ok (a2 : Option Addr) (a3 : Nat) (a4 : Nat) (a0 : Int) (a1 : Int) {R : Value → World → Prop} {w : World} (h : cachetteref10_stands.M a2 a3 a4 a0 a1 R w) : Calls Try.prog 55 #[.slice a2 a3 a4, .int .u32 a0, .int .u32 a1] w fun e w' => ∃ v, e = .returned v ∧ R v w' :=
  mfunc_ok follows (H := [(0, [0, 1, 2, 8, 9], [(10, (.one .slice)), (11, (.one (.int .i64)))]), (2, [0, 9, 10, 12], [(14, (.one (.int .i64)))])]) (args := [.slice a2 a3 a4, .int .u32 a0, .int .u32 a1]) (by rw [cachetteref10_stands.eq]; exact h)

def cachetteref10_stands.N (c0 : Option Addr) (ab : Nat) (c2 : Nat) (bg : Int) (bc : Int) (R : Value → World → Prop) (w : World) : Prop :=
 ((ab : Int) = 0 →
 R (.tuple #[.slice none 0 0, .int .i64 0]) w) ∧
 ((ab : Int) ≠ 0 →
 ∃ a5 : Addr, c0 = some a5 ∧
 (0 : Int) < (ab : Int) ∧
 ∃ (bz : Option Addr) (bj : Nat) (bx : Nat), w.cell? (a5.add (Int.toNat 0 * 1)) = some (.slice bz bj bx) ∧
 ((bj : Int) ≠ 64 →
 R (.tuple #[.slice none 0 0, .int .i64 0]) w) ∧
 ((bj : Int) = 64 →
 (0 : Int) < (ab : Int) ∧
 ∃ (ao : Option Addr) (bh : Nat) (ai : Nat), w.cell? (a5.add (Int.toNat 0 * 1)) = some (.slice ao bh ai) ∧
 (9 : Int) ≤ (ai : Int) ∧ 
 (0 : Int) < (ab : Int) ∧
 ∃ (al : Option Addr) (am : Nat) (b5 : Nat), w.cell? (a5.add (Int.toNat 0 * 1)) = some (.slice al am b5) ∧
 ∃ be : Addr, al = some be ∧
 (14 : Int) < (am : Int) ∧
 ∃ (a7 : Int), w.cell? (be.add (Int.toNat 14 * 1)) = some (.int .u8 a7) ∧
 (-9223372036854775808 : Int) ≤ a7 ∧ a7 < 9223372036854775808 ∧
 ∀ (bo : World), Ext no w bo →
 Calls Try.prog 56 #[.slice (cutA ao ai 5 1) (9 - 5) (ai - 5)] bo fun bm a9 => ∃ (a0 : Int), bm = .returned (.int .u32 a0) ∧
 a9.cell? (be.add (Int.toNat 14 * 1)) = some (.int .u8 a7) ∧
 a9.cell? (a5.add (Int.toNat 0 * 1)) = some (.slice al am b5) ∧
 (a0 = 0 →
 R (.tuple #[.slice none 0 0, .int .i64 0]) a9) ∧
 (a0 ≠ 0 →
 (a7 = 0 →
 R (.tuple #[.slice none 0 0, .int .i64 0]) a9) ∧
 (a7 ≠ 0 →
 (a7 > (ab : Int) →
 R (.tuple #[.slice none 0 0, .int .i64 0]) a9) ∧
 (a7 ≤ (ab : Int) →
 ∃ (I0 : Nat → List Value → World → Prop) (bw : Nat), I0 bw [.slice none 0 0, .int .i64 0] a9 ∧ ∀ (bv : Nat) (a2 : World) (af : Option Addr) (ah : Nat) (aj : Nat) (a4 : Int), I0 bv [.slice af ah aj, .int .i64 a4] a2 →
 (a4 < a7 →
 0 ≤ (a4 : Int) ∧ (a4 : Int) < (ab : Int) ∧
 ∃ (bb : Option Addr) (ak : Nat) (bl : Nat), a2.cell? (a5.add (Int.toNat a4 * 1)) = some (.slice bb ak bl) ∧
 ((ak : Int) ≠ 64 →
 R (.tuple #[.slice none 0 0, .int .i64 0]) a2) ∧
 ((ak : Int) = 64 →
 0 ≤ (a4 : Int) ∧ (a4 : Int) < (ab : Int) ∧
 ∃ (b4 : Option Addr) (ap : Nat) (bf : Nat), a2.cell? (a5.add (Int.toNat a4 * 1)) = some (.slice b4 ap bf) ∧
 ∃ bp : Addr, b4 = some bp ∧
 (15 : Int) < (ap : Int) ∧
 ∃ (bn : Int), a2.cell? (bp.add (Int.toNat 15 * 1)) = some (.int .u8 bn) ∧
 (bn > 48 →
 R (.tuple #[.slice none 0 0, .int .i64 0]) a2) ∧
 (bn ≤ 48 →
 0 ≤ (a4 : Int) ∧ (a4 : Int) < (ab : Int) ∧
 ∃ (b2 : Option Addr) (bi : Nat) (ae : Nat), a2.cell? (a5.add (Int.toNat a4 * 1)) = some (.slice b2 bi ae) ∧
 0 ≤ (a4 : Int) ∧ (a4 : Int) < (ab : Int) ∧
 ∃ (b8 : Option Addr) (b6 : Nat) (bk : Nat), a2.cell? (a5.add (Int.toNat a4 * 1)) = some (.slice b8 b6 bk) ∧
 ∃ bt : Addr, b8 = some bt ∧
 (15 : Int) < (b6 : Int) ∧
 ∃ (ag : Int), a2.cell? (bt.add (Int.toNat 15 * 1)) = some (.int .u8 ag) ∧
 (-9223372036854775808 : Int) ≤ ag ∧ ag < 9223372036854775808 ∧
 (-9223372036854775808 : Int) ≤ ((16 : Int) + ag) ∧ ((16 : Int) + ag) < 9223372036854775808 ∧
 (0 : Int) ≤ (((16 : Int) + ag) : Int) ∧ (((16 : Int) + ag) : Int) ≤ (ae : Int) ∧ (16 : Int) ≤ (((16 : Int) + ag) : Int) ∧ 
 ∀ (az : World), Ext no a2 az →
 ∃ (b0 : Option Addr) (ar : Nat) (av : Nat) (ay : World), (Builtin.append_ #[30, 30] 30 #[.slice af ah aj, .slice (cutA b2 ae 16 1) ((Int.toNat ((16 : Int) + ag)) - 16) (ae - 16)]).run Try.prog az = .ok (.slice b0 ar av) ay ∧
 (-9223372036854775808 : Int) ≤ (a4 + 1) ∧ (a4 + 1) < 9223372036854775808 ∧
 ∃ bq, bq < bv ∧ I0 bq [.slice b0 ar av, .int .i64 (a4 + 1)] ay))) ∧
 (a7 ≤ a4 →
 Calls Try.prog 62 #[.int .u32 bg, .int .u32 a0, .int .u32 bc, .slice af ah aj] a2 fun ba an => ∃ (a6 : Option Addr) (a1 : Nat) (ac : Nat) (a3 : Int), ba = .returned (.tuple #[.slice a6 a1 ac, .int .i64 a3]) ∧
 (a3 ≠ 0 →
 R (.tuple #[.slice none 0 0, .int .i64 0]) an) ∧
 (a3 = 0 →
 ((a1 : Int) ≠ a7 →
 R (.tuple #[.slice none 0 0, .int .i64 0]) an) ∧
 ((a1 : Int) = a7 →
 ∃ (I2 : Nat → List Value → World → Prop) (c1 : Nat), I2 c1 [.int .i64 0] an ∧ ∀ (bu : Nat) (ad : World) (aa : Int), I2 bu [.int .i64 aa] ad →
 (aa < a7 →
 ∃ bs : Addr, a6 = some bs ∧
 0 ≤ (aa : Int) ∧ (aa : Int) < (a1 : Int) ∧
 ∃ (b1 : Option Addr) (ax : Nat) (aq : Nat), ad.cell? (bs.add (Int.toNat aa * 1)) = some (.slice b1 ax aq) ∧
 0 ≤ (aa : Int) ∧ (aa : Int) < (ab : Int) ∧
 ∃ (b3 : Option Addr) (b7 : Nat) (au : Nat), ad.cell? (a5.add (Int.toNat aa * 1)) = some (.slice b3 b7 au) ∧
 ∀ (b9 : World), Ext no ad b9 →
 Calls Try.prog 21 #[.slice b1 ax aq, .slice b3 b7 au] b9 fun bd aw => ∃ (a8 : Bool), bd = .returned (.bool a8) ∧
 (a8 = false →
 R (.tuple #[.slice none 0 0, .int .i64 0]) aw) ∧
 (a8 = true →
 (-9223372036854775808 : Int) ≤ (aa + 1) ∧ (aa + 1) < 9223372036854775808 ∧
 ∃ br, br < bu ∧ I2 br [.int .i64 (aa + 1)] aw)) ∧
 (a7 ≤ aa →
 R (.tuple #[.slice af ah aj, .int .i64 a7]) ad)))))))))

theorem cachetteref10_stands.up (cc : Option Addr) (cd : Nat) (ce : Nat) (af : Int) (ae : Int) {R : Value → World → Prop} {w : World} (h : cachetteref10_stands.N cc cd ce af ae R w) : cachetteref10_stands.M cc cd ce af ae R w := by
  unfold cachetteref10_stands.M
  unfold cachetteref10_stands.N at h
  refine bif_of (fun c4 => ?_) (fun c4 => ?_)
  · have h := h.1 (beq_t c4)
    exact h
  · have h := h.2 (beq_f c4)
    obtain ⟨a5, ab, h⟩ := h
    refine elim_some ab ?_
    obtain ⟨a0, h⟩ := h
    refine ⟨by decide, a0, ?_⟩
    obtain ⟨cn, cu, d1, cl, h⟩ := h
    refine ⟨cn, cu, d1, cl, ?_⟩
    refine bif_of (fun c8 => ?_) (fun c8 => ?_)
    · have h := h.1 (bne_t c8)
      exact h
    · have h := h.2 (bne_f c8)
      refine thenW_in fun ck e9 => ?_
      have ai := (Ext.refl no w).x_drew e9
      refine elim_some ab ?_
      obtain ⟨a0, h⟩ := h
      refine ⟨by decide, a0, ?_⟩
      obtain ⟨ay, b3, ar, b4, h⟩ := h
      refine ⟨ay, b3, ar, (ai).cell b4 id, ?_⟩
      obtain ⟨a1, h⟩ := h
      refine ⟨by decide, a1, by decide, by decide, ?_⟩
      refine elim_some ab ?_
      obtain ⟨a0, h⟩ := h
      refine ⟨by decide, a0, ?_⟩
      obtain ⟨bv, an, bs, c9, h⟩ := h
      refine ⟨bv, an, bs, (ai).cell c9 id, ?_⟩
      obtain ⟨d8, b5, h⟩ := h
      refine elim_some b5 ?_
      obtain ⟨a0, h⟩ := h
      refine ⟨by decide, a0, ?_⟩
      obtain ⟨cz, bh, h⟩ := h
      refine ⟨cz, (ai).cell bh id, ?_⟩
      obtain ⟨a7, a9, h⟩ := h
      try rw [w64 a7 a9]
      have h := h ck ai
      refine h.mono fun d3 cp h => ?_
      obtain ⟨a4, he, h⟩ := h
      refine ⟨a4, he, ?_⟩
      obtain ⟨b0, cb, h⟩ := h
      refine ⟨b0, cb, ?_⟩
      refine bif_of (fun bx => ?_) (fun bx => ?_)
      · have h := h.1 (beq_t bx)
        exact h
      · have h := h.2 (beq_f bx)
        refine bif_of (fun ao => ?_) (fun ao => ?_)
        · have h := h.1 (beq_t ao)
          exact h
        · have h := h.2 (beq_f ao)
          refine bif_of (fun b9 => ?_) (fun b9 => ?_)
          · have h := h.1 (of_decide_eq_true b9)
            exact h
          · have h := h.2 (Int.not_lt.1 (of_decide_eq_false b9))
            obtain ⟨I0, d0, h0, h⟩ := h
            refine ⟨I0, d0, h0, fun cq ag bg bz c6 co hI => ?_⟩
            have h := h cq ag bg bz c6 co hI
            refine bif_of (fun b2 => ?_) (fun b2 => ?_)
            · have h := h.1 (of_decide_eq_true b2)
              refine elim_some ab ?_
              obtain ⟨a1, a0, h⟩ := h
              refine ⟨a1, a0, ?_⟩
              obtain ⟨ax, bu, bb, c1, h⟩ := h
              refine ⟨ax, bu, bb, c1, ?_⟩
              refine bif_of (fun au => ?_) (fun au => ?_)
              · have h := h.1 (bne_t au)
                exact h
              · have h := h.2 (bne_f au)
                refine elim_some ab ?_
                obtain ⟨a1, a0, h⟩ := h
                refine ⟨a1, a0, ?_⟩
                obtain ⟨b8, az, bi, be, h⟩ := h
                refine ⟨b8, az, bi, be, ?_⟩
                obtain ⟨d5, bt, h⟩ := h
                refine elim_some bt ?_
                obtain ⟨a0, h⟩ := h
                refine ⟨by decide, a0, ?_⟩
                obtain ⟨d4, al, h⟩ := h
                refine ⟨d4, al, ?_⟩
                refine bif_of (fun av => ?_) (fun av => ?_)
                · have h := h.1 (of_decide_eq_true av)
                  exact h
                · have h := h.2 (Int.not_lt.1 (of_decide_eq_false av))
                  refine thenW_in fun b7 cw => ?_
                  have aa := (Ext.refl no ag).x_drew cw
                  refine elim_some ab ?_
                  obtain ⟨a1, a0, h⟩ := h
                  refine ⟨a1, a0, ?_⟩
                  obtain ⟨bq, bl, aw, c2, h⟩ := h
                  refine ⟨bq, bl, aw, (aa).cell c2 id, ?_⟩
                  refine elim_some ab ?_
                  obtain ⟨a1, a0, h⟩ := h
                  refine ⟨a1, a0, ?_⟩
                  obtain ⟨bd, ba, bo, aj, h⟩ := h
                  refine ⟨bd, ba, bo, (aa).cell aj id, ?_⟩
                  obtain ⟨d7, ak, h⟩ := h
                  refine elim_some ak ?_
                  obtain ⟨a0, h⟩ := h
                  refine ⟨by decide, a0, ?_⟩
                  obtain ⟨cf, bk, h⟩ := h
                  refine ⟨cf, (aa).cell bk id, ?_⟩
                  obtain ⟨a7, a9, h⟩ := h
                  try rw [w64 a7 a9]
                  obtain ⟨a7, a9, h⟩ := h
                  try rw [w64 a7 a9]
                  obtain ⟨cg, a1, d2, h⟩ := h
                  refine ⟨cg, a1, by decide, d2, ?_⟩
                  have h := h b7 aa
                  obtain ⟨aq, bw, bm, ap, hr, h⟩ := h
                  refine ⟨aq, bw, bm, ap, hr, ?_⟩
                  obtain ⟨a7, a9, h⟩ := h
                  try rw [w64 a7 a9]
                  obtain ⟨ch, hk, h⟩ := h
                  exact ⟨ch, hk, h⟩
            · have h := h.2 (Int.not_lt.1 (of_decide_eq_false b2))
              refine h.mono fun cr cx h => ?_
              obtain ⟨a3, a6, a2, a8, he, h⟩ := h
              refine ⟨a3, a6, a2, a8, he, ?_⟩
              refine bif_of (fun c0 => ?_) (fun c0 => ?_)
              · have h := h.1 (bne_t c0)
                exact h
              · have h := h.2 (bne_f c0)
                refine bif_of (fun c7 => ?_) (fun c7 => ?_)
                · have h := h.1 (bne_t c7)
                  exact h
                · have h := h.2 (bne_f c7)
                  obtain ⟨I2, cj, h0, h⟩ := h
                  refine ⟨I2, cj, h0, fun cv ah ct hI => ?_⟩
                  have h := h cv ah ct hI
                  refine bif_of (fun am => ?_) (fun am => ?_)
                  · have h := h.1 (of_decide_eq_true am)
                    refine thenW_in fun ca cy => ?_
                    have ad := (Ext.refl no ah).x_drew cy
                    obtain ⟨d6, bf, h⟩ := h
                    refine elim_some bf ?_
                    obtain ⟨a1, a0, h⟩ := h
                    refine ⟨a1, a0, ?_⟩
                    obtain ⟨bp, b6, b1, bn, h⟩ := h
                    refine ⟨bp, b6, b1, (ad).cell bn id, ?_⟩
                    refine elim_some ab ?_
                    obtain ⟨a1, a0, h⟩ := h
                    refine ⟨a1, a0, ?_⟩
                    obtain ⟨br, c5, bj, c3, h⟩ := h
                    refine ⟨br, c5, bj, (ad).cell c3 id, ?_⟩
                    have h := h ca ad
                    refine h.mono fun cs ci h => ?_
                    obtain ⟨ac, he, h⟩ := h
                    refine ⟨ac, he, ?_⟩
                    refine bif_of (fun bc => ?_) (fun bc => ?_)
                    · have h := h.1 (not_t bc)
                      exact h
                    · have h := h.2 (not_f bc)
                      obtain ⟨a7, a9, h⟩ := h
                      try rw [w64 a7 a9]
                      obtain ⟨cm, hk, h⟩ := h
                      exact ⟨cm, hk, h⟩
                  · have h := h.2 (Int.not_lt.1 (of_decide_eq_false am))
                    exact h

theorem cachetteref10_stands.go (a2 : Option Addr) (a3 : Nat) (a4 : Nat) (a0 : Int) (a1 : Int) {R : Value → World → Prop} {w : World} (h : cachetteref10_stands.N a2 a3 a4 a0 a1 R w) : Calls Try.prog 55 #[.slice a2 a3 a4, .int .u32 a0, .int .u32 a1] w fun e w' => ∃ v, e = .returned v ∧ R v w' := cachetteref10_stands.ok a2 a3 a4 a0 a1 (cachetteref10_stands.up a2 a3 a4 a0 a1 h)
/-- cachetteref10.Scan -/
def cachetteref10_Scan.M (aj : Option Addr) (ai : Nat) (c4 : Nat) (ao : Int) (R : Value → World → Prop) (w : World) : Prop :=
 ∃ (I0 : Nat → List Value → World → Prop) (m5 : Nat), I0 m5 [.slice none 0 0, .int .i64 0] w ∧ ∀ (m6 : Nat) (bq : World) (aa : Option Addr) (a4 : Nat) (a7 : Nat) (a2 : Int), I0 m6 [.slice aa a4 a7, .int .i64 a2] bq →
 bif ao != 0 then (
 (0 : Int) ≤ (a2 : Int) ∧ (a2 : Int) ≤ (ai : Int) ∧
 Calls Try.prog 55 #[.slice (if c4 = Int.toNat a2 then aj else Option.map (fun z : Addr => z.add ((Int.toNat a2) * 1)) aj) (ai - (Int.toNat a2)) (c4 - (Int.toNat a2)), .int .u32 ao, .int .u32 (IntKind.u32.wrap (a4 : Int))] bq fun bo ar => ∃ (ad : Option Addr) (ae : Nat) (ah : Nat) (a8 : Int), bo = .returned (.tuple #[.slice ad ae ah, .int .i64 a8]) ∧
 bif a8 == 0 then (
 ∃ (I2 : Nat → List Value → World → Prop) (cc : Nat), I2 cc [.int .u32 0, .int .i64 0] ar ∧ ∀ (b7 : Nat) (a9 : World) (a1 : Int) (ab : Int), I2 b7 [.int .u32 a1, .int .i64 ab] a9 →
 bif decide (ab < (ai : Int)) then (
 aj.elim False fun ch =>
 0 ≤ (ab : Int) ∧ (ab : Int) < (ai : Int) ∧
 ∃ (bs : Option Addr) (ay : Nat) (bk : Nat), a9.cell? (ch.add (Int.toNat ab * 1)) = some (.slice bs ay bk) ∧
 bif (ay : Int) == 64 then (
 aj.elim False fun c9 =>
 0 ≤ (ab : Int) ∧ (ab : Int) < (ai : Int) ∧
 ∃ (b3 : Option Addr) (b2 : Nat) (bd : Nat), a9.cell? (c9.add (Int.toNat ab * 1)) = some (.slice b3 b2 bd) ∧
 b3.elim False fun c8 =>
 0 ≤ (0 : Int) ∧ (0 : Int) < (b2 : Int) ∧
 ∃ (bt : Int), a9.cell? (c8.add (Int.toNat 0 * 1)) = some (.int .u8 bt) ∧
 bif bt == 197 then (
 aj.elim False fun c6 =>
 0 ≤ (ab : Int) ∧ (ab : Int) < (ai : Int) ∧
 ∃ (ap : Option Addr) (bn : Nat) (am : Nat), a9.cell? (c6.add (Int.toNat ab * 1)) = some (.slice ap bn am) ∧
 (0 : Int) ≤ (5 : Int) ∧ (5 : Int) ≤ (am : Int) ∧ (0 : Int) ≤ (1 : Int) ∧ (1 : Int) ≤ (5 : Int) ∧
 Calls Try.prog 56 #[.slice (if am = Int.toNat 1 then ap else Option.map (fun z : Addr => z.add ((Int.toNat 1) * 1)) ap) ((Int.toNat 5) - (Int.toNat 1)) (am - (Int.toNat 1))] a9 fun br ax => ∃ (ag : Int), br = .returned (.int .u32 ag) ∧
 bif ag == ao then (
 aj.elim False fun cf =>
 0 ≤ (ab : Int) ∧ (ab : Int) < (ai : Int) ∧
 ∃ (au : Option Addr) (bh : Nat) (ak : Nat), ax.cell? (cf.add (Int.toNat ab * 1)) = some (.slice au bh ak) ∧
 (0 : Int) ≤ (9 : Int) ∧ (9 : Int) ≤ (ak : Int) ∧ (0 : Int) ≤ (5 : Int) ∧ (5 : Int) ≤ (9 : Int) ∧
 Calls Try.prog 56 #[.slice (if ak = Int.toNat 5 then au else Option.map (fun z : Addr => z.add ((Int.toNat 5) * 1)) au) ((Int.toNat 9) - (Int.toNat 5)) (ak - (Int.toNat 5))] ax fun bf bl => ∃ (a3 : Int), bf = .returned (.int .u32 a3) ∧
 ∃ c1, c1 < b7 ∧ I2 c1 [.int .u32 (if (a3 : Int) > a1 then a3 else a1), .int .i64 (IntKind.i64.wrap (ab + 1))] bl) else (
 ∃ bv, bv < b7 ∧ I2 bv [.int .u32 a1, .int .i64 (IntKind.i64.wrap (ab + 1))] ax)) else (
 ∃ c2, c2 < b7 ∧ I2 c2 [.int .u32 a1, .int .i64 (IntKind.i64.wrap (ab + 1))] a9)) else (
 ∃ bu, bu < b7 ∧ I2 bu [.int .u32 a1, .int .i64 (IntKind.i64.wrap (ab + 1))] a9)) else (
 R (.tuple #[.slice aa a4 a7, .int .i64 a2, .int .u32 a1]) a9)) else (
 thenW (ar.alloc (.cells #[.slice ad ae ah] 30)) fun bc =>
 ∃ (b4 : Option Addr) (b8 : Nat) (az : Nat) (b9 : World), (Builtin.append_ #[31, 31] 31 #[.slice aa a4 a7, .slice (some (blk ar.heap.size)) 1 1]).run Try.prog bc = .ok (.slice b4 b8 az) b9 ∧
 ∃ bw, bw < m6 ∧ I0 bw [.slice b4 b8 az, .int .i64 (IntKind.i64.wrap (a2 + a8))] b9)) else (
 ∃ (I2 : Nat → List Value → World → Prop) (ce : Nat), I2 ce [.int .u32 0, .int .i64 0] bq ∧ ∀ (b1 : Nat) (a6 : World) (a0 : Int) (ac : Int), I2 b1 [.int .u32 a0, .int .i64 ac] a6 →
 bif decide (ac < (ai : Int)) then (
 aj.elim False fun cd =>
 0 ≤ (ac : Int) ∧ (ac : Int) < (ai : Int) ∧
 ∃ (bg : Option Addr) (b5 : Nat) (ba : Nat), a6.cell? (cd.add (Int.toNat ac * 1)) = some (.slice bg b5 ba) ∧
 bif (b5 : Int) == 64 then (
 aj.elim False fun cg =>
 0 ≤ (ac : Int) ∧ (ac : Int) < (ai : Int) ∧
 ∃ (b0 : Option Addr) (b6 : Nat) (bp : Nat), a6.cell? (cg.add (Int.toNat ac * 1)) = some (.slice b0 b6 bp) ∧
 b0.elim False fun ca =>
 0 ≤ (0 : Int) ∧ (0 : Int) < (b6 : Int) ∧
 ∃ (c0 : Int), a6.cell? (ca.add (Int.toNat 0 * 1)) = some (.int .u8 c0) ∧
 bif c0 == 197 then (
 aj.elim False fun c7 =>
 0 ≤ (ac : Int) ∧ (ac : Int) < (ai : Int) ∧
 ∃ (aq : Option Addr) (be : Nat) (an : Nat), a6.cell? (c7.add (Int.toNat ac * 1)) = some (.slice aq be an) ∧
 (0 : Int) ≤ (5 : Int) ∧ (5 : Int) ≤ (an : Int) ∧ (0 : Int) ≤ (1 : Int) ∧ (1 : Int) ≤ (5 : Int) ∧
 Calls Try.prog 56 #[.slice (if an = Int.toNat 1 then aq else Option.map (fun z : Addr => z.add ((Int.toNat 1) * 1)) aq) ((Int.toNat 5) - (Int.toNat 1)) (an - (Int.toNat 1))] a6 fun bb av => ∃ (af : Int), bb = .returned (.int .u32 af) ∧
 bif af == ao then (
 aj.elim False fun cb =>
 0 ≤ (ac : Int) ∧ (ac : Int) < (ai : Int) ∧
 ∃ (aw : Option Addr) (bi : Nat) (al : Nat), av.cell? (cb.add (Int.toNat ac * 1)) = some (.slice aw bi al) ∧
 (0 : Int) ≤ (9 : Int) ∧ (9 : Int) ≤ (al : Int) ∧ (0 : Int) ≤ (5 : Int) ∧ (5 : Int) ≤ (9 : Int) ∧
 Calls Try.prog 56 #[.slice (if al = Int.toNat 5 then aw else Option.map (fun z : Addr => z.add ((Int.toNat 5) * 1)) aw) ((Int.toNat 9) - (Int.toNat 5)) (al - (Int.toNat 5))] av fun bj bm => ∃ (a5 : Int), bj = .returned (.int .u32 a5) ∧
 ∃ c3, c3 < b1 ∧ I2 c3 [.int .u32 (if (a5 : Int) > a0 then a5 else a0), .int .i64 (IntKind.i64.wrap (ac + 1))] bm) else (
 ∃ c5, c5 < b1 ∧ I2 c5 [.int .u32 a0, .int .i64 (IntKind.i64.wrap (ac + 1))] av)) else (
 ∃ bx, bx < b1 ∧ I2 bx [.int .u32 a0, .int .i64 (IntKind.i64.wrap (ac + 1))] a6)) else (
 ∃ bz, bz < b1 ∧ I2 bz [.int .u32 a0, .int .i64 (IntKind.i64.wrap (ac + 1))] a6)) else (
 R (.tuple #[.slice aa a4 a7, .int .i64 a2, .int .u32 a0]) a6))

theorem cachetteref10_Scan.eq (l1a : Option Addr) (l1n : Nat) (l1c : Nat) (gen2 : Int) (R : Value → World → Prop) (w : World) : mfunc Try.prog [(0, [0, 1], [(7, (.one .slice)), (8, (.one (.int .i64)))]), (2, [0, 1, 7, 8], [(11, (.one (.int .u32))), (12, (.one (.int .i64)))])] 40 [.slice l1a l1n l1c, .int .u32 gen2] R w = cachetteref10_Scan.M l1a l1n l1c gen2 R w := by kernel_rfl
theorem cachetteref10_Scan.ok (a2 : Option Addr) (a3 : Nat) (a1 : Nat) (a0 : Int) {R : Value → World → Prop} {w : World} (h : cachetteref10_Scan.M a2 a3 a1 a0 R w) : Calls Try.prog 40 #[.slice a2 a3 a1, .int .u32 a0] w fun e w' => ∃ v, e = .returned v ∧ R v w' :=
  mfunc_ok follows (H := [(0, [0, 1], [(7, (.one .slice)), (8, (.one (.int .i64)))]), (2, [0, 1, 7, 8], [(11, (.one (.int .u32))), (12, (.one (.int .i64)))])]) (args := [.slice a2 a3 a1, .int .u32 a0]) (by rw [cachetteref10_Scan.eq]; exact h)

def cachetteref10_Scan.N (bk : Option Addr) (aj : Nat) (ca : Nat) (ai : Int) (R : Value → World → Prop) (w : World) : Prop :=
 ∃ (I0 : Nat → List Value → World → Prop) (m5 : Nat), I0 m5 [.slice none 0 0, .int .i64 0] w ∧ ∀ (m6 : Nat) (bw : World) (ad : Option Addr) (a8 : Nat) (ae : Nat) (a3 : Int), I0 m6 [.slice ad a8 ae, .int .i64 a3] bw →
 (ai ≠ 0 →
 (0 : Int) ≤ (a3 : Int) ∧ (a3 : Int) ≤ (aj : Int) ∧ 
 Calls Try.prog 55 #[.slice (cutA bk ca (Int.toNat a3) 1) (aj - (Int.toNat a3)) (ca - (Int.toNat a3)), .int .u32 ai, .int .u32 (IntKind.u32.wrap (a8 : Int))] bw fun bp aq => ∃ (ah : Option Addr) (af : Nat) (ag : Nat) (a0 : Int), bp = .returned (.tuple #[.slice ah af ag, .int .i64 a0]) ∧
 (a0 = 0 →
 ∃ (I2 : Nat → List Value → World → Prop) (cb : Nat), I2 cb [.int .u32 0, .int .i64 0] aq ∧ ∀ (b3 : Nat) (ab : World) (a2 : Int) (a4 : Int), I2 b3 [.int .u32 a2, .int .i64 a4] ab →
 (a4 < (aj : Int) →
 ∃ b5 : Addr, bk = some b5 ∧
 0 ≤ (a4 : Int) ∧ (a4 : Int) < (aj : Int) ∧
 ∃ (bh : Option Addr) (av : Nat) (bg : Nat), ab.cell? (b5.add (Int.toNat a4 * 1)) = some (.slice bh av bg) ∧
 ((av : Int) = 64 →
 0 ≤ (a4 : Int) ∧ (a4 : Int) < (aj : Int) ∧
 ∃ (ax : Option Addr) (b1 : Nat) (be : Nat), ab.cell? (b5.add (Int.toNat a4 * 1)) = some (.slice ax b1 be) ∧
 ∃ c4 : Addr, ax = some c4 ∧
 (0 : Int) < (b1 : Int) ∧
 ∃ (bd : Int), ab.cell? (c4.add (Int.toNat 0 * 1)) = some (.int .u8 bd) ∧
 (bd = 197 →
 0 ≤ (a4 : Int) ∧ (a4 : Int) < (aj : Int) ∧
 ∃ (b9 : Option Addr) (bm : Nat) (ak : Nat), ab.cell? (b5.add (Int.toNat a4 * 1)) = some (.slice b9 bm ak) ∧
 (5 : Int) ≤ (ak : Int) ∧ 
 Calls Try.prog 56 #[.slice (cutA b9 ak 1 1) (5 - 1) (ak - 1)] ab fun br au => ∃ (a6 : Int), br = .returned (.int .u32 a6) ∧
 (a6 = ai →
 0 ≤ (a4 : Int) ∧ (a4 : Int) < (aj : Int) ∧
 ∃ (az : Option Addr) (bi : Nat) (an : Nat), au.cell? (b5.add (Int.toNat a4 * 1)) = some (.slice az bi an) ∧
 (9 : Int) ≤ (an : Int) ∧ 
 Calls Try.prog 56 #[.slice (cutA az an 5 1) (9 - 5) (an - 5)] au fun bt bl => ∃ (a7 : Int), bt = .returned (.int .u32 a7) ∧
 (-9223372036854775808 : Int) ≤ (a4 + 1) ∧ (a4 + 1) < 9223372036854775808 ∧
 ∃ c8, c8 < b3 ∧ I2 c8 [.int .u32 (if (a7 : Int) > a2 then a7 else a2), .int .i64 (a4 + 1)] bl) ∧
 (a6 ≠ ai →
 (-9223372036854775808 : Int) ≤ (a4 + 1) ∧ (a4 + 1) < 9223372036854775808 ∧
 ∃ c7, c7 < b3 ∧ I2 c7 [.int .u32 a2, .int .i64 (a4 + 1)] au)) ∧
 (bd ≠ 197 →
 (-9223372036854775808 : Int) ≤ (a4 + 1) ∧ (a4 + 1) < 9223372036854775808 ∧
 ∃ c5, c5 < b3 ∧ I2 c5 [.int .u32 a2, .int .i64 (a4 + 1)] ab)) ∧
 ((av : Int) ≠ 64 →
 (-9223372036854775808 : Int) ≤ (a4 + 1) ∧ (a4 + 1) < 9223372036854775808 ∧
 ∃ c1, c1 < b3 ∧ I2 c1 [.int .u32 a2, .int .i64 (a4 + 1)] ab)) ∧
 ((aj : Int) ≤ a4 →
 R (.tuple #[.slice ad a8 ae, .int .i64 a3, .int .u32 a2]) ab)) ∧
 (a0 ≠ 0 →
 ∀ (am : World) (bc : Nat), Ext no aq am → Blk am bc 30 [.slice ah af ag] → aq.heap.size ≤ bc → bc < am.heap.size →
 ∃ (b2 : Option Addr) (b7 : Nat) (b0 : Nat) (b6 : World), (Builtin.append_ #[31, 31] 31 #[.slice ad a8 ae, .slice (some (blk bc)) 1 1]).run Try.prog am = .ok (.slice b2 b7 b0) b6 ∧
 (-9223372036854775808 : Int) ≤ (a3 + a0) ∧ (a3 + a0) < 9223372036854775808 ∧
 ∃ c3, c3 < m6 ∧ I0 c3 [.slice b2 b7 b0, .int .i64 (a3 + a0)] b6)) ∧
 (ai = 0 →
 ∃ (I2 : Nat → List Value → World → Prop) (cc : Nat), I2 cc [.int .u32 0, .int .i64 0] bw ∧ ∀ (aw : Nat) (ac : World) (a1 : Int) (a5 : Int), I2 aw [.int .u32 a1, .int .i64 a5] ac →
 (a5 < (aj : Int) →
 ∃ bb : Addr, bk = some bb ∧
 0 ≤ (a5 : Int) ∧ (a5 : Int) < (aj : Int) ∧
 ∃ (bu : Option Addr) (ar : Nat) (bn : Nat), ac.cell? (bb.add (Int.toNat a5 * 1)) = some (.slice bu ar bn) ∧
 ((ar : Int) = 64 →
 0 ≤ (a5 : Int) ∧ (a5 : Int) < (aj : Int) ∧
 ∃ (ba : Option Addr) (ay : Nat) (bf : Nat), ac.cell? (bb.add (Int.toNat a5 * 1)) = some (.slice ba ay bf) ∧
 ∃ c9 : Addr, ba = some c9 ∧
 (0 : Int) < (ay : Int) ∧
 ∃ (bv : Int), ac.cell? (c9.add (Int.toNat 0 * 1)) = some (.int .u8 bv) ∧
 (bv = 197 →
 0 ≤ (a5 : Int) ∧ (a5 : Int) < (aj : Int) ∧
 ∃ (b4 : Option Addr) (bx : Nat) (ao : Nat), ac.cell? (bb.add (Int.toNat a5 * 1)) = some (.slice b4 bx ao) ∧
 (5 : Int) ≤ (ao : Int) ∧ 
 Calls Try.prog 56 #[.slice (cutA b4 ao 1 1) (5 - 1) (ao - 1)] ac fun bo ap => ∃ (aa : Int), bo = .returned (.int .u32 aa) ∧
 (aa = ai →
 0 ≤ (a5 : Int) ∧ (a5 : Int) < (aj : Int) ∧
 ∃ (b8 : Option Addr) (bs : Nat) (al : Nat), ap.cell? (bb.add (Int.toNat a5 * 1)) = some (.slice b8 bs al) ∧
 (9 : Int) ≤ (al : Int) ∧ 
 Calls Try.prog 56 #[.slice (cutA b8 al 5 1) (9 - 5) (al - 5)] ap fun bj bq => ∃ (a9 : Int), bj = .returned (.int .u32 a9) ∧
 (-9223372036854775808 : Int) ≤ (a5 + 1) ∧ (a5 + 1) < 9223372036854775808 ∧
 ∃ c2, c2 < aw ∧ I2 c2 [.int .u32 (if (a9 : Int) > a1 then a9 else a1), .int .i64 (a5 + 1)] bq) ∧
 (aa ≠ ai →
 (-9223372036854775808 : Int) ≤ (a5 + 1) ∧ (a5 + 1) < 9223372036854775808 ∧
 ∃ c6, c6 < aw ∧ I2 c6 [.int .u32 a1, .int .i64 (a5 + 1)] ap)) ∧
 (bv ≠ 197 →
 (-9223372036854775808 : Int) ≤ (a5 + 1) ∧ (a5 + 1) < 9223372036854775808 ∧
 ∃ bz, bz < aw ∧ I2 bz [.int .u32 a1, .int .i64 (a5 + 1)] ac)) ∧
 ((ar : Int) ≠ 64 →
 (-9223372036854775808 : Int) ≤ (a5 + 1) ∧ (a5 + 1) < 9223372036854775808 ∧
 ∃ c0, c0 < aw ∧ I2 c0 [.int .u32 a1, .int .i64 (a5 + 1)] ac)) ∧
 ((aj : Int) ≤ a5 →
 R (.tuple #[.slice ad a8 ae, .int .i64 a3, .int .u32 a1]) ac))

theorem cachetteref10_Scan.up (c6 : Option Addr) (c7 : Nat) (c9 : Nat) (ak : Int) {R : Value → World → Prop} {w : World} (h : cachetteref10_Scan.N c6 c7 c9 ak R w) : cachetteref10_Scan.M c6 c7 c9 ak R w := by
  unfold cachetteref10_Scan.M
  unfold cachetteref10_Scan.N at h
  obtain ⟨I0, m5, h0, h⟩ := h
  refine ⟨I0, m5, h0, fun m6 cz ai ah aj al hI => ?_⟩
  have h := h m6 cz ai ah aj al hI
  refine bif_of (fun c8 => ?_) (fun c8 => ?_)
  · have h := h.1 (bne_t c8)
    obtain ⟨ca, a0, h⟩ := h
    refine ⟨ca, a0, ?_⟩
    refine h.mono fun cq ag h => ?_
    obtain ⟨aa, a5, a8, a4, he, h⟩ := h
    refine ⟨aa, a5, a8, a4, he, ?_⟩
    refine bif_of (fun am => ?_) (fun am => ?_)
    · have h := h.1 (beq_t am)
      obtain ⟨I2, cl, h0, h⟩ := h
      refine ⟨I2, cl, h0, fun cs bg af ch hI => ?_⟩
      have h := h cs bg af ch hI
      refine bif_of (fun an => ?_) (fun an => ?_)
      · have h := h.1 (of_decide_eq_true an)
        obtain ⟨d2, ad, h⟩ := h
        refine elim_some ad ?_
        obtain ⟨a0, a1, h⟩ := h
        refine ⟨a0, a1, ?_⟩
        obtain ⟨b0, c4, ax, bo, h⟩ := h
        refine ⟨b0, c4, ax, bo, ?_⟩
        refine bif_of (fun aq => ?_) (fun aq => ?_)
        · have h := h.1 (beq_t aq)
          refine elim_some ad ?_
          obtain ⟨a0, a1, h⟩ := h
          refine ⟨a0, a1, ?_⟩
          obtain ⟨az, b8, ar, b2, h⟩ := h
          refine ⟨az, b8, ar, b2, ?_⟩
          obtain ⟨d3, av, h⟩ := h
          refine elim_some av ?_
          obtain ⟨a1, h⟩ := h
          refine ⟨by decide, a1, ?_⟩
          obtain ⟨cd, bc, h⟩ := h
          refine ⟨cd, bc, ?_⟩
          refine bif_of (fun bs => ?_) (fun bs => ?_)
          · have h := h.1 (beq_t bs)
            refine elim_some ad ?_
            obtain ⟨a0, a1, h⟩ := h
            refine ⟨a0, a1, ?_⟩
            obtain ⟨bz, bb, ao, b4, h⟩ := h
            refine ⟨bz, bb, ao, b4, ?_⟩
            obtain ⟨a0, h⟩ := h
            refine ⟨by decide, a0, by decide, by decide, ?_⟩
            refine h.mono fun cu ct h => ?_
            obtain ⟨a6, he, h⟩ := h
            refine ⟨a6, he, ?_⟩
            refine bif_of (fun c0 => ?_) (fun c0 => ?_)
            · have h := h.1 (beq_t c0)
              refine elim_some ad ?_
              obtain ⟨a0, a1, h⟩ := h
              refine ⟨a0, a1, ?_⟩
              obtain ⟨b6, b3, ba, bi, h⟩ := h
              refine ⟨b6, b3, ba, bi, ?_⟩
              obtain ⟨a0, h⟩ := h
              refine ⟨by decide, a0, by decide, by decide, ?_⟩
              refine h.mono fun cv cj h => ?_
              obtain ⟨a7, he, h⟩ := h
              refine ⟨a7, he, ?_⟩
              obtain ⟨a2, a3, h⟩ := h
              try rw [w64 a2 a3]
              obtain ⟨d1, hk, h⟩ := h
              exact ⟨d1, hk, h⟩
            · have h := h.2 (beq_f c0)
              obtain ⟨a2, a3, h⟩ := h
              try rw [w64 a2 a3]
              obtain ⟨d0, hk, h⟩ := h
              exact ⟨d0, hk, h⟩
          · have h := h.2 (beq_f bs)
            obtain ⟨a2, a3, h⟩ := h
            try rw [w64 a2 a3]
            obtain ⟨cw, hk, h⟩ := h
            exact ⟨cw, hk, h⟩
        · have h := h.2 (beq_f aq)
          obtain ⟨a2, a3, h⟩ := h
          try rw [w64 a2 a3]
          obtain ⟨cg, hk, h⟩ := h
          exact ⟨cg, hk, h⟩
      · have h := h.2 (Int.not_lt.1 (of_decide_eq_false an))
        exact h
    · have h := h.2 (beq_f am)
      refine thenW_in fun b1 bm => ?_
      have h := h b1 ag.heap.size ((Ext.refl no ag).x_alloc bm) (Blk.of_new bm) ((Ext.refl no ag)).size (size_lt_alloc bm)
      obtain ⟨bl, bv, b7, bt, hr, h⟩ := h
      refine ⟨bl, bv, b7, bt, hr, ?_⟩
      obtain ⟨a2, a3, h⟩ := h
      try rw [w64 a2 a3]
      obtain ⟨co, hk, h⟩ := h
      exact ⟨co, hk, h⟩
  · have h := h.2 (bne_f c8)
    obtain ⟨I2, cm, h0, h⟩ := h
    refine ⟨I2, cm, h0, fun cf br ac ck hI => ?_⟩
    have h := h cf br ac ck hI
    refine bif_of (fun bx => ?_) (fun bx => ?_)
    · have h := h.1 (of_decide_eq_true bx)
      obtain ⟨d5, ae, h⟩ := h
      refine elim_some ae ?_
      obtain ⟨a0, a1, h⟩ := h
      refine ⟨a0, a1, ?_⟩
      obtain ⟨bu, bk, be, bf, h⟩ := h
      refine ⟨bu, bk, be, bf, ?_⟩
      refine bif_of (fun bh => ?_) (fun bh => ?_)
      · have h := h.1 (beq_t bh)
        refine elim_some ae ?_
        obtain ⟨a0, a1, h⟩ := h
        refine ⟨a0, a1, ?_⟩
        obtain ⟨c2, b5, aw, au, h⟩ := h
        refine ⟨c2, b5, aw, au, ?_⟩
        obtain ⟨d4, c5, h⟩ := h
        refine elim_some c5 ?_
        obtain ⟨a1, h⟩ := h
        refine ⟨by decide, a1, ?_⟩
        obtain ⟨cy, ay, h⟩ := h
        refine ⟨cy, ay, ?_⟩
        refine bif_of (fun bj => ?_) (fun bj => ?_)
        · have h := h.1 (beq_t bj)
          refine elim_some ae ?_
          obtain ⟨a0, a1, h⟩ := h
          refine ⟨a0, a1, ?_⟩
          obtain ⟨bq, c3, bn, c1, h⟩ := h
          refine ⟨bq, c3, bn, c1, ?_⟩
          obtain ⟨a0, h⟩ := h
          refine ⟨by decide, a0, by decide, by decide, ?_⟩
          refine h.mono fun cp ce h => ?_
          obtain ⟨ab, he, h⟩ := h
          refine ⟨ab, he, ?_⟩
          refine bif_of (fun bd => ?_) (fun bd => ?_)
          · have h := h.1 (beq_t bd)
            refine elim_some ae ?_
            obtain ⟨a0, a1, h⟩ := h
            refine ⟨a0, a1, ?_⟩
            obtain ⟨bw, bp, ap, b9, h⟩ := h
            refine ⟨bw, bp, ap, b9, ?_⟩
            obtain ⟨a0, h⟩ := h
            refine ⟨by decide, a0, by decide, by decide, ?_⟩
            refine h.mono fun ci cr h => ?_
            obtain ⟨a9, he, h⟩ := h
            refine ⟨a9, he, ?_⟩
            obtain ⟨a2, a3, h⟩ := h
            try rw [w64 a2 a3]
            obtain ⟨cn, hk, h⟩ := h
            exact ⟨cn, hk, h⟩
          · have h := h.2 (beq_f bd)
            obtain ⟨a2, a3, h⟩ := h
            try rw [w64 a2 a3]
            obtain ⟨cx, hk, h⟩ := h
            exact ⟨cx, hk, h⟩
        · have h := h.2 (beq_f bj)
          obtain ⟨a2, a3, h⟩ := h
          try rw [w64 a2 a3]
          obtain ⟨cb, hk, h⟩ := h
          exact ⟨cb, hk, h⟩
      · have h := h.2 (beq_f bh)
        obtain ⟨a2, a3, h⟩ := h
        try rw [w64 a2 a3]
        obtain ⟨cc, hk, h⟩ := h
        exact ⟨cc, hk, h⟩
    · have h := h.2 (Int.not_lt.1 (of_decide_eq_false bx))
      exact h

theorem cachetteref10_Scan.go (a2 : Option Addr) (a3 : Nat) (a1 : Nat) (a0 : Int) {R : Value → World → Prop} {w : World} (h : cachetteref10_Scan.N a2 a3 a1 a0 R w) : Calls Try.prog 40 #[.slice a2 a3 a1, .int .u32 a0] w fun e w' => ∃ v, e = .returned v ∧ R v w' := cachetteref10_Scan.ok a2 a3 a1 a0 (cachetteref10_Scan.up a2 a3 a1 a0 h)
end Go.Proofs.Ytidijnfkcpbkiaa

/- Journal: which record stands, plainly; the small functions of a scan. -/
set_option linter.unusedVariables false
set_option linter.unusedSimpArgs false
set_option maxRecDepth 20000
set_option maxHeartbeats 2000000
namespace Go.Proofs.Ytidijnfkcpbkiaa
open Go Go.Mx Go.Proofs
open W (OwnB GivesW)
def byteN (s : List UInt8) (i : Nat) : Nat := ((s[i]?).getD 0).toNat
def numB (s : List UInt8) (i : Nat) : Nat := byteN s i * 16777216 + byteN s (i + 1) * 65536 + byteN s (i + 2) * 256 + byteN s (i + 3)
def bodyS (s : List UInt8) : List UInt8 := (s.drop 16).take (byteN s 15)
def cntK (L : List (List UInt8)) : Nat := byteN (L.headD []) 14
def bodyK (L : List (List UInt8)) : List UInt8 := (L.take (cntK L)).flatMap bodyS
/-- a record stands where these sectors begin. -/
def OKS (L : List (List UInt8)) (gen seq : Nat) : Prop :=
  L ≠ [] ∧ (L.headD []).length = 64 ∧ cntK L ≤ L.length ∧ (∀ s ∈ L.take (cntK L), s.length = 64 ∧ byteN s 15 ≤ 48) ∧ frameK gen (numB (L.headD []) 5) seq (bodyK L) = (L.take (cntK L), 0)
instance (L : List (List UInt8)) (gen seq : Nat) : Decidable (OKS L gen seq) := by unfold OKS; infer_instance
def standK (L : List (List UInt8)) (gen seq : Nat) : List UInt8 × Nat := if OKS L gen seq then (bodyK L, cntK L) else ([], 0)
theorem byteN_lt (s : List UInt8) (i : Nat) : byteN s i < 256 := UInt8.toNat_lt _
theorem numB_lt (s : List UInt8) (i : Nat) : numB s i < 4294967296 := by
  have h0 := byteN_lt s i
  have h1 := byteN_lt s (i + 1)
  have h2 := byteN_lt s (i + 2)
  have h3 := byteN_lt s (i + 3)
  unfold numB; omega
theorem cntK_lt (L : List (List UInt8)) : cntK L < 256 := byteN_lt _ _
theorem frameK_zero {gen round seq : Nat} {b : List UInt8} {f : List (List UInt8)} (h : frameK gen round seq b = (f, 0)) : b.length ≤ 4000 ∧ gen ≠ 0 ∧ round ≠ 0 ∧ f = frameL gen round seq b ∧ f ≠ [] := by
  unfold frameK at h
  split at h
  · cases h
  · rename_i h4
    split at h
    · cases h
    · rename_i hz
      injection h with h1 h2
      refine ⟨by omega, fun e => hz (.inl e), fun e => hz (.inr e), h1.symm, ?_⟩
      rw [← h1]
      intro e
      have := congrArg List.length e
      unfold frameL at this
      rw [List.length_map, List.length_range] at this
      have h0 : partsN b.length = 0 := this
      unfold partsN at h0
      rw [if_neg h4] at h0
      split at h0
      · cases h0
      · omega
theorem sec_mark {gen round seq : Nat} {b : List UInt8} {s : List UInt8} (h : s ∈ frameL gen round seq b) : byteN s 0 = 197 ∧ s.length = 64 := by
  unfold frameL at h
  obtain ⟨i, hi, rfl⟩ := List.mem_map.1 h
  exact ⟨rfl, secL_len _ _ _ _ _ (partL_le _ _)⟩
section
variable {L : List (List UInt8)} {gen seq : Nat}
theorem OKS.cnt (h : OKS L gen seq) : cntK L ≠ 0 := fun e => by
  obtain ⟨_, _, _, _, hf⟩ := h
  have := (frameK_zero hf).2.2.2.2
  rw [e] at this
  exact this rfl
theorem OKS.round (h : OKS L gen seq) : numB (L.headD []) 5 ≠ 0 := (frameK_zero h.2.2.2.2).2.2.1
theorem OKS.genz (h : OKS L gen seq) : gen ≠ 0 := (frameK_zero h.2.2.2.2).2.1
theorem OKS.mark (h : OKS L gen seq) : ∀ s ∈ L.take (cntK L), byteN s 0 = 197 ∧ s.length = 64 := fun s hs => by
  have hf := h.2.2.2.2
  have := (frameK_zero hf).2.2.2.1
  rw [this] at hs
  exact sec_mark hs
theorem OKS.head (h : OKS L gen seq) : L.headD [] ∈ L.take (cntK L) := by
  have hc := h.cnt
  obtain ⟨h0, _⟩ := h
  cases L with
  | nil => exact absurd rfl h0
  | cons x r =>
    obtain ⟨k, hk⟩ := Nat.exists_eq_succ_of_ne_zero hc
    rw [hk]
    exact List.mem_cons_self
theorem standK_no (h : ¬ OKS L gen seq) : standK L gen seq = ([], 0) := if_neg h
theorem standK_yes (h : OKS L gen seq) : standK L gen seq = (bodyK L, cntK L) := if_pos h
theorem standK_le (L : List (List UInt8)) (gen seq : Nat) : (standK L gen seq).2 ≤ L.length := by
  by_cases h : OKS L gen seq
  · rw [standK_yes h]; exact h.2.2.1
  · rw [standK_no h]; exact Nat.zero_le _
theorem bodyS_le (s : List UInt8) : (bodyS s).length ≤ 255 := by
  unfold bodyS
  rw [List.length_take]
  have := byteN_lt s 15
  omega
theorem flat_le : ∀ L : List (List UInt8), (L.flatMap bodyS).length ≤ 255 * L.length
  | [] => Nat.le_refl _
  | x :: r => by
    have := bodyS_le x
    have := flat_le r
    rw [List.flatMap_cons, List.length_append, List.length_cons]
    omega
end
/-- a list of bytes' rows, where they lie. -/
structure BsAt (w : World) (a : Option Addr) (c : Nat) (l : List BS) : Prop where
  row : RowAt w a (l.map BS.v)
  oks : ∀ x ∈ l, RowAt w x.a (bytesV x.bs) ∧ x.bs.length ≤ x.c
  le : l.length ≤ c
section
variable {w w' w1 : World} {o o' o1 : Own} {q g n N : Nat} {K : Nat → Prop} {b s : List UInt8} {a : Option Addr} {c : Nat} {l : List BS}
theorem BsAt.no (h : BsAt w a c l) (X : Ext no w w') : BsAt w' a c l := ⟨h.row.no X, fun x hx => ⟨(h.oks x hx).1.no X, (h.oks x hx).2⟩, h.le⟩
theorem BsRow.at (h : BsRow w o a c l) : BsAt w a c l := ⟨h.row.1, fun x hx => ⟨(h.oks x hx).1.1, (h.oks x hx).2⟩, h.le⟩
theorem BsAt.cut (h : BsAt w a c l) (k : Nat) : BsAt w (cutA a c k 1) (c - k) (l.drop k) :=
  ⟨by have := h.row.cut k c (by rw [List.length_map]; exact h.le); rwa [← List.map_drop] at this, fun x hx => h.oks x (List.mem_of_mem_drop hx), by rw [List.length_drop]; have := h.le; omega⟩
theorem BsAt.take (h : BsAt w a c l) (k : Nat) : BsAt w a c (l.take k) :=
  ⟨by have := h.row.take k; rwa [← List.map_take] at this, fun x hx => h.oks x (List.mem_of_mem_take hx), by rw [List.length_take]; have := h.le; omega⟩
theorem BsAt.cell (h : BsAt w a c l) {i : Nat} {x : BS} (hi : l[i]? = some x) : ∃ ad, a = some ad ∧ w.cell? (ad.add (i * 1)) = some (.slice x.a x.bs.length x.c) := by
  obtain ⟨ad, ha, hc⟩ := h.row i x.v (by rw [List.getElem?_map, hi]; rfl)
  exact ⟨ad, ha, by rw [Nat.mul_one]; exact hc⟩
theorem byte_cell (h : RowAt w a (bytesV s)) {i : Nat} (hi : i < s.length) : ∃ ad, a = some ad ∧ w.cell? (ad.add (i * 1)) = some (.int .u8 (byteN s i)) := by
  obtain ⟨ad, ha, hc⟩ := h i (u8V s[i]) (by unfold bytesV; rw [List.getElem?_map, List.getElem?_eq_getElem hi]; rfl)
  refine ⟨ad, ha, ?_⟩
  rw [Nat.mul_one, hc]
  unfold byteN
  rw [List.getElem?_eq_getElem hi]; rfl
theorem sIs_spec (h : RowAt w a (bytesV s)) :
    Calls Try.prog 58 #[.slice a s.length c] w (Ret (.bool (decide (s.length = 64 ∧ byteN s 0 = 197))) fun w' => w' = w) := by
  refine journal_sector_is.run _ _ _ ?_
  unfold journal_sector_is.N
  refine ⟨fun h64 => ?_, fun h64 => ⟨by rw [decide_eq_false (by omega)], rfl⟩⟩
  obtain ⟨ad, rfl, hc⟩ := byte_cell h (i := 0) (by omega)
  refine ⟨ad, rfl, by omega, _, hc, ?_, rfl⟩
  congr 1
  rw [Bool.eq_iff_iff]
  simp
  omega
theorem or_step (n x : Nat) (hn : n < 16777216) (hx : x < 256) : IntKind.u32.wrap ((BitVec.ofInt (IntKind.bits .u32) (IntKind.u32.wrap ((n : Int) * 256)) ||| BitVec.ofInt (IntKind.bits .u32) (IntKind.u32.wrap (x : Int))).toNat) = ((n * 256 + x : Nat) : Int) := by
  rw [show IntKind.u32.wrap ((n : Int) * 256) = ((n * 256 : Nat) : Int) by rw [IntKind.wrap_u32]; omega, show IntKind.u32.wrap (x : Int) = ((x : Nat) : Int) by rw [IntKind.wrap_u32]; omega]
  have h1 : (BitVec.ofInt (IntKind.bits .u32) ((n * 256 : Nat) : Int)).toNat = n * 256 := by
    show (BitVec.ofInt 32 ((n * 256 : Nat) : Int)).toNat = _
    rw [BitVec.ofInt_natCast, BitVec.toNat_ofNat]; omega
  have h2 : (BitVec.ofInt (IntKind.bits .u32) ((x : Nat) : Int)).toNat = x := by
    show (BitVec.ofInt 32 ((x : Nat) : Int)).toNat = _
    rw [BitVec.ofInt_natCast, BitVec.toNat_ofNat]; omega
  rw [BitVec.toNat_or, h1, h2]
  have h3 : n * 256 ||| x = n * 256 + x := by
    have := Nat.two_pow_add_eq_or_of_lt (i := 8) (b := x) (by omega) n
    rw [show (2 : Nat) ^ 8 * n = n * 256 by omega] at this
    exact this.symm
  rw [h3, IntKind.wrap_u32]; omega
/-- a number's bytes so far. -/
def numP (s : List UInt8) (i : Nat) : Nat → Nat
  | 0 => 0
  | k + 1 => numP s i k * 256 + byteN s (i + k)
theorem numP_four (s : List UInt8) (i : Nat) : numP s i 4 = numB s i := by
  simp only [numP, numB, Nat.add_zero]
  omega
theorem numP_lt (s : List UInt8) (i : Nat) : ∀ k, k ≤ 3 → numP s i k < 16777216 := fun k hk => by
  have h0 := byteN_lt s (i + 0)
  have h1 := byteN_lt s (i + 1)
  have h2 := byteN_lt s (i + 2)
  match k, hk with
  | 0, _ => simp only [numP]; omega
  | 1, _ => simp only [numP]; omega
  | 2, _ => simp only [numP]; omega
  | 3, _ => simp only [numP]; omega
theorem at_spec (h : RowAt w a (bytesV s)) (hc : s.length ≤ c) {i : Nat} (hi : i + 4 ≤ s.length) (hs : s.length < 1000000) :
    Calls Try.prog 59 #[.slice a s.length c, .int .i64 i] w (Ret (.int .u32 (numB s i)) fun w' => w' = w) := by
  refine journal_sector_at.run _ _ _ _ ?_
  unfold journal_sector_at.N
  have hcut : (Int.toNat ((i : Int) + 4)) - (Int.toNat (i : Int)) = 4 := by omega
  refine ⟨by omega, by omega, by omega, by omega, by omega, by omega, ?_⟩
  rw [hcut, Int.toNat_natCast]
  refine ⟨fun m vs w1 => ∃ t : Nat, vs = [.int .u32 (numP s i t), .int .i64 t] ∧ m + t = 4 ∧ w1 = w, 4, ⟨0, rfl, rfl, rfl⟩, ?_⟩
  rintro m w7 n t ⟨t', hi', hm, rfl⟩
  simp only [List.cons.injEq, Value.int.injEq, true_and, and_true] at hi'
  obtain ⟨rfl, rfl⟩ := hi'
  refine ⟨fun ht => ?_, fun ht => ?_⟩
  · have ht4 : t' < 4 := by omega
    have hd : RowAt w7 (cutA a c i 1) (bytesV (s.drop i)) := by
      have := h.cut i c (by rw [bytesV_length]; exact hc)
      unfold bytesV at this ⊢
      rwa [← List.map_drop] at this
    obtain ⟨ad, ha, hcell⟩ := byte_cell hd (i := t') (by rw [List.length_drop]; omega)
    have hb : byteN (s.drop i) t' = byteN s (i + t') := by unfold byteN; rw [List.getElem?_drop]
    rw [hb] at hcell
    refine ⟨ad, ha, by omega, by omega, _, by rw [Int.toNat_natCast]; exact hcell, by omega, by omega, m - 1, by omega, t' + 1, ?_, by omega, rfl⟩
    rw [or_step _ _ (numP_lt s i t' (by omega)) (byteN_lt _ _)]; rfl
  · have : t' = 4 := by omega
    subst this
    exact ⟨by rw [numP_four], rfl⟩
theorem num_spec (h : RowAt w a (bytesV s)) (hs : s.length = 4) :
    Calls Try.prog 56 #[.slice a 4 c] w (Ret (.int .u32 (numB s 0)) fun w' => Ext no w w') := by
  refine cachetteref10_number.run _ _ _ ?_
  unfold cachetteref10_number.N
  obtain ⟨ad, rfl, c0⟩ := byte_cell h (i := 0) (by omega)
  obtain ⟨_, e, c1⟩ := byte_cell h (i := 1) (by omega)
  cases e
  obtain ⟨_, e, c2⟩ := byte_cell h (i := 2) (by omega)
  cases e
  obtain ⟨_, e, c3⟩ := byte_cell h (i := 3) (by omega)
  cases e
  have h0 := byteN_lt s 0
  have h1 := byteN_lt s 1
  have h2 := byteN_lt s 2
  have h3 := byteN_lt s 3
  refine ⟨ad, rfl, by decide, _, c0, by decide, _, c1, by decide, _, c2, by decide, _, c3, fun w2 X => ⟨?_, X⟩⟩
  congr 1
  simp only [IntKind.wrap_u32]
  show _ = ((byteN s 0 * 16777216 + byteN s 1 * 65536 + byteN s 2 * 256 + byteN s 3 : Nat) : Int)
  omega
/-- a number within a sector. -/
theorem num_in (h : RowAt w a (bytesV s)) (hc : s.length ≤ c) {i : Nat} (hi : i + 4 ≤ s.length) :
    Calls Try.prog 56 #[.slice (cutA a c i 1) 4 (c - i)] w (Ret (.int .u32 (numB s i)) fun w' => Ext no w w') := by
  have hd : RowAt w (cutA a c i 1) (bytesV ((s.drop i).take 4)) := by
    have := (h.cut i c (by rw [bytesV_length]; exact hc)).take 4
    unfold bytesV at this ⊢
    rwa [← List.map_drop, ← List.map_take] at this
  have hn : numB ((s.drop i).take 4) 0 = numB s i := by
    have hb : ∀ k, k < 4 → byteN ((s.drop i).take 4) k = byteN s (i + k) := fun k hk => by
      unfold byteN
      rw [List.getElem?_take_of_lt hk, List.getElem?_drop]
    unfold numB
    rw [hb 0 (by decide), hb (0 + 1) (by decide), hb (0 + 2) (by decide), hb (0 + 3) (by decide)]; rfl
  have := num_spec (c := c - i) hd (by rw [List.length_take, List.length_drop]; omega)
  rw [hn] at this
  exact this
theorem bEq_spec {b : Option Addr} {d : Nat} {x y : List UInt8} (ha : RowAt w a (bytesV x)) (hb : RowAt w b (bytesV y)) :
    Calls Try.prog 64 #[.slice a x.length c, .slice b y.length d] w (Ret (.bool (decide (x = y))) fun w' => w' = w) := by
  refine bytes_Equal.run _ _ _ _ _ _ ?_
  unfold bytes_Equal.N
  refine ⟨_, conv_str Try.underlying30 Try.underlying5 Try.underlying9 ha, _, conv_str Try.underlying30 Try.underlying5 Try.underlying9 hb, ?_, rfl⟩
  have e : ∀ s : List UInt8, (ByteArray.mk s.toArray).toList = s := fun s => by
    simp
  congr 1
  rw [e, e, Bool.eq_iff_iff]
  simp
theorem eqFunc_spec {ba : Option Addr} {bc : Nat} {l1 l2 : List BS} (h1 : BsAt w a c l1) (h2 : BsAt w ba bc l2) (hl : l1.length < 1000000) :
    Calls Try.prog 63 #[.slice a l1.length c, .slice ba l2.length bc, .func (.func 64) #[] #[]] w (Ret (.bool (decide (l1.map BS.bs = l2.map BS.bs))) fun w' => w' = w) := by
  refine slices_EqualFunc_byte_byte_byte_byte.run _ _ _ _ _ _ _ _ _ ?_
  unfold slices_EqualFunc_byte_byte_byte_byte.N
  have leafF : l1.map BS.bs ≠ l2.map BS.bs → ∀ {w2 : World}, w2 = w → Value.bool false = .bool (decide (l1.map BS.bs = l2.map BS.bs)) ∧ w2 = w := fun h _ X => ⟨by rw [decide_eq_false h], X⟩
  refine ⟨fun h => leafF (fun e => h (by have := congrArg List.length e; simp at this; omega)) rfl, fun h => ?_⟩
  refine ⟨fun m vs w1 => ∃ t : Nat, vs = [.int .i64 t] ∧ m + t = l1.length ∧ w1 = w ∧ (l1.map BS.bs).take t = (l2.map BS.bs).take t, l1.length, ⟨0, rfl, rfl, rfl, rfl⟩, ?_⟩
  rintro m w7 i ⟨t, hi, hm, rfl, htk⟩
  simp only [List.cons.injEq, Value.int.injEq, true_and, and_true] at hi
  subst hi
  refine ⟨fun ht => ?_, fun ht => ?_⟩
  rotate_left
  · have htt : t = l1.length := by omega
    rw [List.take_of_length_le (by simp; omega), List.take_of_length_le (by simp; omega)] at htk
    exact ⟨by rw [decide_eq_true htk], rfl⟩
  have ht1 : t < l1.length := by omega
  have ht2 : t < l2.length := by omega
  have g1 : l1[t]? = some l1[t] := List.getElem?_eq_getElem ht1
  have g2 : l2[t]? = some l2[t] := List.getElem?_eq_getElem ht2
  obtain ⟨x1, x2⟩ := h1.oks _ (List.getElem_mem ht1)
  obtain ⟨y1, y2⟩ := h2.oks _ (List.getElem_mem ht2)
  have n1 : (l1.map BS.bs)[t]? = some (l1[t]).bs := by rw [List.getElem?_map, g1]; rfl
  have n2 : (l2.map BS.bs)[t]? = some (l2[t]).bs := by rw [List.getElem?_map, g2]; rfl
  generalize l1[t] = u at *
  generalize l2[t] = v at *
  obtain ⟨ad, rfl, c1⟩ := h1.cell g1
  obtain ⟨bd, rfl, c2⟩ := h2.cell g2
  refine ⟨ad, rfl, by omega, by omega, u.a, u.bs.length, u.c, by rw [Int.toNat_natCast]; exact c1, bd, rfl, by omega, by omega, v.a, v.bs.length, v.c, by rw [Int.toNat_natCast]; exact c2, by kernel_rfl, ?_⟩
  refine (by exact (bEq_spec (c := u.c) (d := v.c) x1 y1).mono fun z w18 ⟨he, hw⟩ => ⟨_, he, fun hs => leafF (fun e => of_decide_eq_false hs (by rw [e, n2] at n1; injection n1 with n1; exact n1.symm)) hw, fun hs => ⟨by omega, by omega, m - 1, by omega, t + 1, rfl, by omega, hw, by rw [List.take_add_one, List.take_add_one, htk, n1, n2, of_decide_eq_true hs]⟩⟩)
end
end Go.Proofs.Ytidijnfkcpbkiaa

/- Journal: the record that stands (both). -/
set_option linter.unusedVariables false
set_option linter.unusedSimpArgs false
set_option maxRecDepth 20000
set_option maxHeartbeats 2000000
namespace Go.Proofs.Ytidijnfkcpbkiaa
open Go Go.Mx Go.Proofs
open W (OwnB GivesW)
section
variable {w w' w1 : World} {o o' o1 : Own} {q g n N : Nat} {K : Nat → Prop} {b s : List UInt8} {a : Option Addr} {c : Nat} {l : List BS}
theorem body_row (h : RowAt w a (bytesV s)) (hc : s.length ≤ c) : RowAt w (cutA a c 16 1) (bytesV (bodyS s)) := by
  have := (h.cut 16 c (by rw [bytesV_length]; exact hc)).take (byteN s 15)
  unfold bodyS
  unfold bytesV at this ⊢
  rwa [← List.map_drop, ← List.map_take] at this
theorem body_len (h : s.length = 64) (h15 : byteN s 15 ≤ 48) : (bodyS s).length = byteN s 15 := by
  unfold bodyS
  rw [List.length_take, List.length_drop]; omega
theorem get_map_bs {l : List BS} {i : Nat} {x : BS} (h : l[i]? = some x) : (l.map BS.bs)[i]? = some x.bs := by rw [List.getElem?_map, h]; rfl
theorem mem_take_of {α : Type} {L : List α} {i k : Nat} {x : α} (hi : i < k) (h : L[i]? = some x) : x ∈ L.take k := by
  have : (L.take k)[i]? = some x := by rw [List.getElem?_take, if_pos hi]; exact h
  exact List.mem_of_getElem? this
/-- what is gathered of the first sectors. -/
structure Gath (w : World) (L : List (List UInt8)) (t : Nat) (w1 : World) (ba : Option Addr) (bc : Nat) (b : List UInt8) : Prop where
  own : OwnB w.heap.size w1 ba bc b
  ext : Ext no w w1
  ok : ∀ s ∈ L.take t, s.length = 64 ∧ byteN s 15 ≤ 48
  is : b = (L.take t).flatMap bodyS
theorem gath_len (h : Gath w (l.map BS.bs) n w1 a c b) (hn : n ≤ 255) : b.length ≤ 100000 := by
  rw [h.is]
  have := flat_le ((l.map BS.bs).take n)
  rw [List.length_take] at this
  omega
theorem record_spec (h : BsAt w a c l) (hl : l.length ≤ 100000) {gen seq : Nat} :
    Calls Try.prog 57 #[.slice a l.length c, .int .u32 gen, .int .u32 seq] w (fun z w' => ∃ ba bc, z = .returned (.tuple #[.slice ba (standK (l.map BS.bs) gen seq).1.length bc, .int .i64 (standK (l.map BS.bs) gen seq).2]) ∧ OwnB w.heap.size w' ba bc (standK (l.map BS.bs) gen seq).1 ∧ Ext no w w') := by
  refine (journal_record.go _ _ _ _ _ (R := fun z w' => ∃ ba bc, z = (.tuple #[.slice ba (standK (l.map BS.bs) gen seq).1.length bc, .int .i64 (standK (l.map BS.bs) gen seq).2]) ∧ OwnB w.heap.size w' ba bc (standK (l.map BS.bs) gen seq).1 ∧ Ext no w w') ?_).mono fun z w' ⟨u, he, ba, bc, hu, hw⟩ => ⟨ba, bc, by rw [he, hu], hw⟩
  unfold journal_record.N
  generalize hL : l.map BS.bs = L at *
  have hLl : L.length = l.length := by rw [← hL, List.length_map]
  have leaf : ¬ OKS L gen seq → ∀ {w2 : World}, Ext no w w2 → ∃ ba bc, Value.tuple #[.slice none 0 0, .int .i64 0] = (.tuple #[.slice ba (standK L gen seq).1.length bc, .int .i64 (standK L gen seq).2]) ∧ OwnB w.heap.size w2 ba bc (standK L gen seq).1 ∧ Ext no w w2 := fun hn w2 X => by
    rw [standK_no hn]; exact ⟨none, 0, rfl, W.OwnB.nil _ _, X⟩
  refine ⟨fun h0 => leaf (fun k => k.1 (List.eq_nil_of_length_eq_zero (by omega))) (Ext.refl _ _), fun h0 => ?_⟩
  have hi0 : 0 < l.length := by omega
  have g0 : l[0]? = some l[0] := List.getElem?_eq_getElem hi0
  have hm0 := List.getElem_mem hi0
  generalize l[0] = x0 at *
  have hhead : L.headD [] = x0.bs := by
    have := get_map_bs g0
    rw [hL] at this
    cases L with
    | nil => simp at this
    | cons y r => simp at this; exact this
  obtain ⟨ad, rfl, c0⟩ := h.cell g0
  obtain ⟨r0, e0⟩ := h.oks x0 hm0
  refine ⟨ad, rfl, by omega, x0.a, x0.bs.length, x0.c, c0, ?_⟩
  refine (sIs_spec (c := x0.c) r0).mono fun u w10 ⟨he, hw⟩ => ⟨_, he, fun hs => ?_, fun hs => ?_⟩
  · subst hw
    exact leaf (fun k => of_decide_eq_false hs (by rw [← hhead]; exact ⟨(k.mark _ k.head).2, (k.mark _ k.head).1⟩)) (Ext.refl _ _)
  subst hw
  obtain ⟨h64, hmk⟩ := of_decide_eq_true hs
  obtain ⟨xd, hxd, c14⟩ := byte_cell r0 (i := 14) (by omega)
  have hcnt : byteN x0.bs 14 = cntK L := by unfold cntK; rw [hhead]
  rw [hcnt] at c14
  have hc255 := cntK_lt L
  refine ⟨by omega, x0.a, x0.bs.length, x0.c, c0, xd, hxd, by omega, _, c14, by omega, by omega, fun hgt => leaf (fun k => by have := k.2.2.1; omega) (Ext.refl _ _), fun hle => ⟨by omega, by have := h.le; omega, ?_⟩⟩
  rw [Int.toNat_natCast]
  refine ⟨fun m vs w1 => ∃ (t : Nat) (ba : Option Addr) (bc : Nat) (b : List UInt8), vs = [.slice ba b.length bc, .int .i64 (cntK L : Nat), .int .i64 t] ∧ m + t = cntK L ∧ Gath w10 L t w1 ba bc b, cntK L, ⟨0, none, 0, [], rfl, rfl, ⟨W.OwnB.nil _ _, Ext.refl _ _, fun s hs => by simp at hs, rfl⟩⟩, ?_⟩
  rintro m w23 ba bn bc n19 i ⟨t, ba', bc', b, hi, hm, G⟩
  simp only [List.cons.injEq, Value.slice.injEq, Value.int.injEq, true_and, and_true] at hi
  obtain ⟨⟨rfl, rfl, rfl⟩, rfl, rfl⟩ := hi
  have h23 := h.no G.ext
  refine ⟨fun ht => ?_, fun ht => ?_⟩
  · have htl : t < l.length := by omega
    have gt : l[t]? = some l[t] := List.getElem?_eq_getElem htl
    have hmt := List.getElem_mem htl
    generalize l[t] = x at *
    have gL : L[t]? = some x.bs := by rw [← hL]; exact get_map_bs gt
    have hin : x.bs ∈ L.take (cntK L) := mem_take_of (by omega) gL
    obtain ⟨_, e, cx⟩ := h23.cell gt
    cases e
    obtain ⟨rx, ex⟩ := h23.oks x hmt
    refine ⟨by omega, by omega, x.a, x.bs.length, x.c, by rw [Int.toNat_natCast]; exact cx, ?_⟩
    refine (sIs_spec (c := x.c) rx).mono fun u w29 ⟨he, hw⟩ => ⟨_, he, fun hs => ?_, fun hs => ?_⟩
    · subst hw
      exact leaf (fun k => of_decide_eq_false hs ⟨(k.mark _ hin).2, (k.mark _ hin).1⟩) G.ext
    subst hw
    obtain ⟨hx64, hxm⟩ := of_decide_eq_true hs
    obtain ⟨yd, hyd, c15⟩ := byte_cell rx (i := 15) (by omega)
    refine ⟨yd, hyd, by omega, _, c15, fun hgt => leaf (fun k => by have := (k.2.2.2.1 _ hin).2; omega) G.ext, fun hle15 => ⟨by omega, _, c15, by omega, by omega, by omega, by omega, by omega, by omega, by omega, ?_⟩⟩
    have hbl := body_len hx64 (by omega)
    have hcut : Int.toNat ((16 : Int) + (byteN x.bs 15 : Int)) - 16 = (bodyS x.bs).length := by rw [hbl]; omega
    rw [hcut]
    have hgl := gath_len (l := l) (by rw [hL]; exact G) (show t ≤ 255 by omega)
    obtain ⟨a', c', w38, hr, O38, X38, _⟩ := appB (xc := x.c - 16) G.own G.ext (Nat.le_refl _) G.ext.size (Ext.refl no w29) (body_row rx ex) (by omega)
    refine ⟨a', _, c', w38, hr, by omega, by omega, m - 1, by omega, t + 1, a', c', _, rfl, by omega, ⟨O38, X38, fun s hs => ?_, ?_⟩⟩
    · rw [List.take_add_one, gL] at hs
      rcases List.mem_append.1 hs with hs | hs
      · exact G.ok s hs
      · simp at hs; subst hs; exact ⟨hx64, by omega⟩
    · rw [List.take_add_one, gL, List.flatMap_append, ← G.is]; simp
  · have htt : t = cntK L := by omega
    subst htt
    have hbK : b = bodyK L := G.is
    have hgl := gath_len (l := l) (by rw [hL]; exact G) (show cntK L ≤ 255 by omega)
    have r0' := r0.no G.ext
    refine (at_spec (i := 5) r0' e0 (by omega) (by omega)).mono fun u w42 ⟨he, hw⟩ => ⟨_, he, ?_⟩
    subst hw
    have hnum : numB x0.bs 5 = numB (L.headD []) 5 := by rw [hhead]
    rw [hnum]
    refine (fFrame_spec (o := fun _ => none) (fun b j _ h => by cases h) G.own.row G.own.le (by omega) gen (numB (L.headD []) 5) seq).mono fun u w46 ⟨o46, fa, fc, f, he, s46, hfm, hf⟩ => ⟨_, _, _, _, he, fun hne => leaf (fun k => hne (by rw [hbK]; exact congrArg Prod.snd k.2.2.2.2)) (G.ext.trans (s46.ext.mono fun b ⟨_, _, h⟩ _ => h)), fun heq => ⟨by omega, by have := h.le; omega, ?_⟩⟩
    have X46 : Ext no w42 w46 := s46.ext.mono fun b ⟨_, _, h⟩ _ => h
    rw [Int.toNat_natCast]
    have hlt : (l.take (cntK L)).length = cntK L := by rw [List.length_take]; omega
    have hfl : f.length < 1000000 := by
      have h1 := congrArg List.length hfm
      rw [List.length_map] at h1
      rw [h1]
      unfold frameK
      split
      · exact (by decide)
      · split
        · exact (by decide)
        · show (frameL _ _ _ _).length < _
          unfold frameL
          rw [List.length_map, List.length_range]
          have := partsN_le b.length
          omega
    have hq := eqFunc_spec hf.at ((h23.no X46).take (cntK L)) hfl
    rw [hlt] at hq
    refine hq.mono fun u w50 ⟨he, hw⟩ => ⟨_, he, fun hs => ?_, fun hs => ?_⟩
    · have hs' := of_decide_eq_false hs
      subst hw
      exact leaf (fun k => hs' (by
        rw [hfm, List.map_take, hL, hbK]
        exact congrArg Prod.fst k.2.2.2.2)) (G.ext.trans X46)
    · have hs' := of_decide_eq_true hs
      subst hw
      rw [hfm, List.map_take, hL] at hs'
      have hOK : OKS L gen seq := ⟨fun e => by rw [e] at hLl; simp at hLl; omega, by rw [hhead]; exact h64, by omega, G.ok, Prod.ext (by rw [← hbK]; exact hs') (by rw [← hbK]; exact heq)⟩
      rw [standK_yes hOK, ← hbK]
      exact ⟨ba, bc, rfl, W.OwnB.no G.own X46, G.ext.trans X46⟩
theorem stands_spec (h : BsAt w a c l) (hl : l.length ≤ 100000) {gen seq : Nat} (hg : gen < 4294967296) (hse : seq < 4294967296) :
    Calls Try.prog 55 #[.slice a l.length c, .int .u32 gen, .int .u32 seq] w (fun z w' => ∃ ba bc, z = .returned (.tuple #[.slice ba (standK (l.map BS.bs) gen seq).1.length bc, .int .i64 (standK (l.map BS.bs) gen seq).2]) ∧ OwnB w.heap.size w' ba bc (standK (l.map BS.bs) gen seq).1 ∧ Ext no w w') := by
  refine (cachetteref10_stands.go _ _ _ _ _ (R := fun z w' => ∃ ba bc, z = (.tuple #[.slice ba (standK (l.map BS.bs) gen seq).1.length bc, .int .i64 (standK (l.map BS.bs) gen seq).2]) ∧ OwnB w.heap.size w' ba bc (standK (l.map BS.bs) gen seq).1 ∧ Ext no w w') ?_).mono fun z w' ⟨u, he, ba, bc, hu, hw⟩ => ⟨ba, bc, by rw [he, hu], hw⟩
  unfold cachetteref10_stands.N
  generalize hL : l.map BS.bs = L at *
  have hLl : L.length = l.length := by rw [← hL, List.length_map]
  have leaf : ¬ OKS L gen seq → ∀ {w2 : World}, Ext no w w2 → ∃ ba bc, Value.tuple #[.slice none 0 0, .int .i64 0] = (.tuple #[.slice ba (standK L gen seq).1.length bc, .int .i64 (standK L gen seq).2]) ∧ OwnB w.heap.size w2 ba bc (standK L gen seq).1 ∧ Ext no w w2 := fun hn w2 X => by
    rw [standK_no hn]; exact ⟨none, 0, rfl, W.OwnB.nil _ _, X⟩
  refine ⟨fun h0 => leaf (fun k => k.1 (List.eq_nil_of_length_eq_zero (by omega))) (Ext.refl _ _), fun h0 => ?_⟩
  have hi0 : 0 < l.length := by omega
  have g0 : l[0]? = some l[0] := List.getElem?_eq_getElem hi0
  have hm0 := List.getElem_mem hi0
  generalize l[0] = x0 at *
  have hhead : L.headD [] = x0.bs := by
    have := get_map_bs g0
    rw [hL] at this
    cases L with
    | nil => simp at this
    | cons y r => simp at this; exact this
  obtain ⟨ad, rfl, c0⟩ := h.cell g0
  obtain ⟨r0, e0⟩ := h.oks x0 hm0
  refine ⟨ad, rfl, by omega, x0.a, x0.bs.length, x0.c, c0, fun hne => leaf (fun k => hne (by have := k.2.1; rw [hhead] at this; omega)) (Ext.refl _ _), fun h64' => ?_⟩
  have h64 : x0.bs.length = 64 := by omega
  obtain ⟨xd, hxd, c14⟩ := byte_cell r0 (i := 14) (by omega)
  have hcnt : byteN x0.bs 14 = cntK L := by unfold cntK; rw [hhead]
  rw [hcnt] at c14
  have hc255 := cntK_lt L
  refine ⟨by omega, x0.a, x0.bs.length, x0.c, c0, by omega, by omega, x0.a, x0.bs.length, x0.c, c0, xd, hxd, by omega, _, c14, by omega, by omega, fun w9 X9 => ?_⟩
  have hnum : numB x0.bs 5 = numB (L.headD []) 5 := by rw [hhead]
  have hn := num_in (i := 5) (r0.no X9) e0 (by omega)
  rw [hnum] at hn
  refine hn.mono fun u w19 ⟨he, X19'⟩ => ⟨_, he, ?_⟩
  have X19 := X9.trans X19'
  refine ⟨X19.cell c14 id, X19.cell c0 id, fun hz => leaf (fun k => k.round (by omega)) X19, fun hz => ⟨fun hz0 => leaf (fun k => k.cnt (by omega)) X19, fun hz0 => ⟨fun hgt => leaf (fun k => by have := k.2.2.1; omega) X19, fun hle => ?_⟩⟩⟩
  refine ⟨fun m vs w1 => ∃ (t : Nat) (ba : Option Addr) (bc : Nat) (b : List UInt8), vs = [.slice ba b.length bc, .int .i64 t] ∧ m + t = cntK L ∧ Gath w L t w1 ba bc b, cntK L, ⟨0, none, 0, [], rfl, rfl, ⟨W.OwnB.nil _ _, X19, fun s hs => by simp at hs, rfl⟩⟩, ?_⟩
  rintro m w23 ba bn bc i ⟨t, ba', bc', b, hi, hm, G⟩
  simp only [List.cons.injEq, Value.slice.injEq, Value.int.injEq, true_and, and_true] at hi
  obtain ⟨⟨rfl, rfl, rfl⟩, rfl⟩ := hi
  have h23 := h.no G.ext
  refine ⟨fun ht => ?_, fun ht => ?_⟩
  · have htl : t < l.length := by omega
    have gt : l[t]? = some l[t] := List.getElem?_eq_getElem htl
    have hmt := List.getElem_mem htl
    generalize l[t] = x at *
    have gL : L[t]? = some x.bs := by rw [← hL]; exact get_map_bs gt
    have hin : x.bs ∈ L.take (cntK L) := mem_take_of (by omega) gL
    obtain ⟨_, e, cx⟩ := h23.cell gt
    cases e
    obtain ⟨rx, ex⟩ := h23.oks x hmt
    have cx' : w23.cell? (ad.add (Int.toNat (t : Int) * 1)) = some (.slice x.a x.bs.length x.c) := by rw [Int.toNat_natCast]; exact cx
    refine ⟨by omega, by omega, x.a, x.bs.length, x.c, cx', fun hne => leaf (fun k => hne (by have := (k.2.2.2.1 _ hin).1; omega)) G.ext, fun hx64' => ?_⟩
    have hx64 : x.bs.length = 64 := by omega
    obtain ⟨yd, hyd, c15⟩ := byte_cell rx (i := 15) (by omega)
    refine ⟨by omega, by omega, x.a, x.bs.length, x.c, cx', yd, hyd, by omega, _, c15, fun hgt => leaf (fun k => by have := (k.2.2.2.1 _ hin).2; omega) G.ext, fun hle15 => ⟨by omega, by omega, x.a, x.bs.length, x.c, cx', by omega, by omega, x.a, x.bs.length, x.c, cx', yd, hyd, by omega, _, c15, by omega, by omega, by omega, by omega, by omega, by omega, by omega, fun w40 X40 => ?_⟩⟩
    have hbl := body_len hx64 (by omega)
    have hcut : Int.toNat ((16 : Int) + (byteN x.bs 15 : Int)) - 16 = (bodyS x.bs).length := by rw [hbl]; omega
    rw [hcut]
    have hgl := gath_len (l := l) (by rw [hL]; exact G) (show t ≤ 255 by omega)
    obtain ⟨a', c', w38, hr, O38, X38, _⟩ := appB (xc := x.c - 16) G.own G.ext (Nat.le_refl _) G.ext.size X40 (body_row (rx.no X40) ex) (by omega)
    refine ⟨a', _, c', w38, hr, by omega, by omega, m - 1, by omega, t + 1, a', c', _, rfl, by omega, ⟨O38, X38, fun s hs => ?_, ?_⟩⟩
    · rw [List.take_add_one, gL] at hs
      rcases List.mem_append.1 hs with hs | hs
      · exact G.ok s hs
      · simp at hs; subst hs; exact ⟨hx64, by omega⟩
    · rw [List.take_add_one, gL, List.flatMap_append, ← G.is]; simp
  · have htt : t = cntK L := by omega
    subst htt
    have hbK : b = bodyK L := G.is
    have hgl := gath_len (l := l) (by rw [hL]; exact G) (show cntK L ≤ 255 by omega)
    refine (rFrame_spec (o := fun _ => none) (fun b j _ h => by cases h) G.own.row G.own.le (by omega) hg (numB_lt _ 5) hse).mono fun u w46 ⟨o46, fa, fc, f, he, s46, hfm, hf, _⟩ => ⟨_, _, _, _, he, fun hne => leaf (fun k => hne (by rw [hbK]; exact congrArg Prod.snd k.2.2.2.2)) (G.ext.trans (s46.ext.mono fun b ⟨_, _, h⟩ _ => h)), fun heq => ?_⟩
    have X46 : Ext no w23 w46 := s46.ext.mono fun b ⟨_, _, h⟩ _ => h
    have hLt : (L.take (cntK L)).length = cntK L := by rw [List.length_take]; omega
    have hfl : f.length = (frameK gen (numB (L.headD []) 5) seq b).1.length := by rw [← hfm, List.length_map]
    refine ⟨fun hne => leaf (fun k => hne (by
      have := congrArg (fun z : List (List UInt8) × Int => z.1.length) k.2.2.2.2
      rw [← hbK] at this
      simp only [hLt] at this
      omega)) (G.ext.trans X46), fun hlen => ?_⟩
    have h46 := h23.no X46
    have hfa := hf.at
    refine ⟨fun m vs w1 => ∃ t : Nat, vs = [.int .i64 t] ∧ m + t = cntK L ∧ Ext no w46 w1 ∧ (f.map BS.bs).take t = L.take t, cntK L, ⟨0, rfl, rfl, Ext.refl _ _, rfl⟩, ?_⟩
    rintro m2 w60 i ⟨t, hi, hm2, X60, htk⟩
    simp only [List.cons.injEq, Value.int.injEq, true_and, and_true] at hi
    subst hi
    refine ⟨fun ht => ?_, fun ht => ?_⟩
    · have ht1 : t < f.length := by omega
      have ht2 : t < l.length := by omega
      have g1 : f[t]? = some f[t] := List.getElem?_eq_getElem ht1
      have g2 : l[t]? = some l[t] := List.getElem?_eq_getElem ht2
      have n1 := get_map_bs g1
      have n2 : L[t]? = some (l[t]).bs := by rw [← hL]; exact get_map_bs g2
      obtain ⟨p1, p2⟩ := (hfa.no X60).oks _ (List.getElem_mem ht1)
      obtain ⟨q1, q2⟩ := (h46.no X60).oks _ (List.getElem_mem ht2)
      generalize f[t] = u at *
      generalize l[t] = v at *
      obtain ⟨fd, hfd, d1⟩ := (hfa.no X60).cell g1
      obtain ⟨_, e, d2⟩ := (h46.no X60).cell g2
      cases e
      refine ⟨fd, hfd, by omega, by omega, u.a, u.bs.length, u.c, by rw [Int.toNat_natCast]; exact d1, by omega, by omega, v.a, v.bs.length, v.c, by rw [Int.toNat_natCast]; exact d2, fun w62 X62 => ?_⟩
      have hul : u.bs.length < 1000000 := by
        have hu : u.bs ∈ (frameK gen (numB (L.headD []) 5) seq b).1 := by rw [← hfm]; exact List.mem_of_getElem? n1
        have hz := frameK_zero (f := (frameK gen (numB (L.headD []) 5) seq b).1) (gen := gen) (round := numB (L.headD []) 5) (seq := seq) (b := b) (Prod.ext rfl heq)
        have hu2 : u.bs ∈ frameL gen (numB (L.headD []) 5) seq b := by rw [← hz.2.2.2.1]; exact hu
        have := (sec_mark hu2).2
        omega
      refine (W.sameB_spec (p1.no X62) (q1.no X62) hul).mono fun z w70 ⟨he, X70⟩ => ⟨_, he, fun hs => ?_, fun hs => ?_⟩
      · have hne := of_decide_eq_false hs
        refine leaf (fun k => hne ?_) (G.ext.trans (((X46.trans X60).trans X62).trans X70))
        have hk : f.map BS.bs = L.take (cntK L) := by rw [hfm, hbK]; exact congrArg Prod.fst k.2.2.2.2
        rw [hk, List.getElem?_take, if_pos (by omega), n2] at n1
        injection n1 with n1
        exact n1.symm
      · have heq' := of_decide_eq_true hs
        exact ⟨by omega, by omega, m2 - 1, by omega, t + 1, rfl, by omega, (X60.trans X62).trans X70, by rw [List.take_add_one, List.take_add_one, htk, n1, n2, heq']⟩
    · have htt : t = cntK L := by omega
      have hs' : (frameK gen (numB (L.headD []) 5) seq b).1 = L.take (cntK L) := by
        rw [← htt, ← htk, List.take_of_length_le (by rw [List.length_map]; omega), hfm]
      have hOK : OKS L gen seq := ⟨fun e => by rw [e] at hLl; simp at hLl; omega, by rw [hhead]; exact h64, by omega, G.ok, Prod.ext (by rw [← hbK]; exact hs') (by rw [← hbK]; exact heq)⟩
      rw [standK_yes hOK, ← hbK]
      have X := X46.trans X60
      exact ⟨ba, bc, rfl, W.OwnB.no G.own X, G.ext.trans X⟩
end
end Go.Proofs.Ytidijnfkcpbkiaa

/- Journal: a scan (both). -/
set_option linter.unusedVariables false
set_option linter.unusedSimpArgs false
set_option maxRecDepth 20000
set_option maxHeartbeats 2000000
namespace Go.Proofs.Ytidijnfkcpbkiaa
open Go Go.Mx Go.Proofs
open W (OwnB GivesW)
def scanG (gen : Nat) : Nat → List (List UInt8) → Nat → List (List UInt8) × Nat
  | 0, _, _ => ([], 0)
  | k + 1, L, s => if (standK L gen s).2 = 0 then ([], 0) else ((standK L gen s).1 :: (scanG gen k (L.drop (standK L gen s).2) (s + 1)).1, (standK L gen s).2 + (scanG gen k (L.drop (standK L gen s).2) (s + 1)).2)
def roundStep (gen : Nat) (r : Nat) (s : List UInt8) : Nat := if s.length = 64 ∧ byteN s 0 = 197 ∧ numB s 1 = gen then max r (numB s 5) else r
def roundOf (gen : Nat) (L : List (List UInt8)) : Nat := L.foldl (roundStep gen) 0
def scanK (L : List (List UInt8)) (gen : Nat) : (List (List UInt8) × Nat) × Nat := (scanG gen (L.length + 1) L 0, roundOf gen L)
theorem roundStep_lt {gen r : Nat} {s : List UInt8} (h : r < 4294967296) : roundStep gen r s < 4294967296 := by
  unfold roundStep
  have := numB_lt s 5
  split <;> omega
theorem roundOf_lt (gen : Nat) (L : List (List UInt8)) : roundOf gen L < 4294967296 := by
  unfold roundOf
  have : ∀ (L : List (List UInt8)) (r : Nat), r < 4294967296 → L.foldl (roundStep gen) r < 4294967296 := by
    intro L
    induction L with
    | nil => intro r h; exact h
    | cons x t ih => intro r h; exact ih _ (roundStep_lt h)
  exact this L 0 (by decide)
theorem roundOf_step {gen : Nat} {L : List (List UInt8)} {t : Nat} {s : List UInt8} (h : L[t]? = some s) : roundOf gen (L.take (t + 1)) = roundStep gen (roundOf gen (L.take t)) s := by
  unfold roundOf
  rw [List.take_add_one, h, List.foldl_append]; rfl
theorem scanG_zero : ∀ (k : Nat) (L : List (List UInt8)) (s : Nat), scanG 0 k L s = ([], 0)
  | 0, _, _ => rfl
  | k + 1, L, s => by
    have : (standK L 0 s).2 = 0 := by rw [standK_no fun h => h.genz rfl]
    simp only [scanG, this, if_true]
theorem scanG_le (gen : Nat) : ∀ (k : Nat) (L : List (List UInt8)) (s : Nat), (scanG gen k L s).2 ≤ L.length ∧ (scanG gen k L s).1.length ≤ (scanG gen k L s).2
  | 0, L, s => ⟨Nat.zero_le _, Nat.le_refl _⟩
  | k + 1, L, s => by
    by_cases h : (standK L gen s).2 = 0
    · simp only [scanG, h, if_true]; exact ⟨Nat.zero_le _, Nat.le_refl _⟩
    · have h1 := standK_le L gen s
      have ih := scanG_le gen k (L.drop (standK L gen s).2) (s + 1)
      rw [List.length_drop] at ih
      simp only [scanG, if_neg h, List.length_cons]
      omega
section
variable {w w' w1 : World} {o o' o1 : Own} {q g n N : Nat} {K : Nat → Prop} {b s : List UInt8} {a : Option Addr} {c : Nat} {l : List BS}
theorem max_int (x y : Nat) : (if ((x : Int) : Int) > (y : Int) then (x : Int) else (y : Int)) = ((max y x : Nat) : Int) := by
  split <;> omega
theorem scan_spec (ok : Tags w o) (h : BsAt w a c l) (hl : l.length ≤ 100000) (gen : Nat) :
    Calls Try.prog 52 #[.slice a l.length c, .int .u32 gen] w (fun z w' => ∃ o' ra rc, ∃ r : List BS, z = .returned (.tuple #[.slice ra r.length rc, .int .i64 (scanK (l.map BS.bs) gen).1.2, .int .u32 (scanK (l.map BS.bs) gen).2]) ∧ Step no w o w' o' ∧ r.map BS.bs = (scanK (l.map BS.bs) gen).1.1 ∧ BsRow w' o' ra rc r) := by
  refine (journal_Scan.go _ _ _ _ (R := fun z w' => ∃ o' ra rc, ∃ r : List BS, z = (.tuple #[.slice ra r.length rc, .int .i64 (scanK (l.map BS.bs) gen).1.2, .int .u32 (scanK (l.map BS.bs) gen).2]) ∧ Step no w o w' o' ∧ r.map BS.bs = (scanK (l.map BS.bs) gen).1.1 ∧ BsRow w' o' ra rc r) ?_).mono fun z w' ⟨u, he, o', ra, rc, r, hu, hw⟩ => ⟨o', ra, rc, r, by rw [he, hu], hw⟩
  unfold journal_Scan.N
  generalize hL : l.map BS.bs = L at *
  have hLl : L.length = l.length := by rw [← hL, List.length_map]
  obtain ⟨T, hT⟩ : ∃ T, scanG gen (L.length + 1) L 0 = T := ⟨_, rfl⟩
  refine ⟨fun m vs w1 => ∃ (t : Nat) (o1 : Own) (ra : Option Addr) (rc : Nat) (r : List BS), vs = [.slice ra r.length rc, .int .i64 t] ∧ t ≤ L.length ∧ L.length < m + t ∧ r.length ≤ t ∧ Step no w o w1 o1 ∧ BsL w.heap.size w1 o1 ra rc r ∧ (r.map BS.bs ++ (scanG gen m (L.drop t) r.length).1, t + (scanG gen m (L.drop t) r.length).2) = T, L.length + 1, ⟨0, o, none, 0, [], rfl, Nat.zero_le _, by omega, Nat.le_refl _, Step.refl _ ok, BsL.nil _ _ _, by rw [← hT]; simp⟩, ?_⟩
  rintro m w7 ra rn rc i ⟨t, o7, ra', rc', r, hi, ht, hm, hrt, s7, R7, hG⟩
  simp only [List.cons.injEq, Value.slice.injEq, Value.int.injEq, true_and, and_true] at hi
  obtain ⟨⟨rfl, rfl, rfl⟩, rfl⟩ := hi
  obtain ⟨k, rfl⟩ : ∃ k, m = k + 1 := ⟨m - 1, by omega⟩
  have h7 := h.no (s7.ext.mono fun b ⟨_, _, h⟩ _ => h)
  have hseq : IntKind.u32.wrap (r.length : Int) = (r.length : Int) := by rw [IntKind.wrap_u32]; omega
  refine ⟨by omega, by omega, ?_⟩
  rw [hseq, Int.toNat_natCast]
  have hdl : l.length - t = (l.drop t).length := by rw [List.length_drop]
  rw [hdl]
  have hrec := record_spec (h7.cut t) (by rw [List.length_drop]; omega) (gen := gen) (seq := r.length)
  rw [List.map_drop, hL] at hrec
  refine hrec.mono fun u w11 ⟨ba, bc, he, hO, X11⟩ => ⟨_, _, _, _, he, fun hz => ?_, fun hz w36 q X36 hb hq hq' => ?_⟩
  · have hz' : (standK (L.drop t) gen r.length).2 = 0 := by omega
    simp only [scanG, hz', if_true, List.append_nil, Nat.add_zero] at hG
    have s11 := Step.of_no X11 s7.ok
    have R11 := R7.step s11 fun _ h => h.elim
    have s011 := s7.trans s11
    have h11 := h7.no X11
    refine ⟨fun m vs w1 => ∃ t2 : Nat, vs = [.int .u32 (roundOf gen (L.take t2) : Nat), .int .i64 t2] ∧ m + t2 = l.length ∧ w1 = w11, l.length, ⟨0, rfl, rfl, rfl⟩, ?_⟩
    rintro m2 w17 rd i ⟨t2, hi, hm2, rfl⟩
    simp only [List.cons.injEq, Value.int.injEq, true_and, and_true] at hi
    obtain ⟨rfl, rfl⟩ := hi
    refine ⟨fun h2 => ?_, fun h2 => ?_⟩
    · have htl : t2 < l.length := by omega
      have gt : l[t2]? = some l[t2] := List.getElem?_eq_getElem htl
      have hmt := List.getElem_mem htl
      have gL : L[t2]? = some (l[t2]).bs := by rw [← hL]; exact get_map_bs gt
      generalize l[t2] = x at *
      obtain ⟨xd, hxd, cx⟩ := h11.cell gt
      obtain ⟨rx, ex⟩ := h11.oks x hmt
      have hst := roundOf_step (gen := gen) gL
      have nx : ∀ v : Nat, v = roundOf gen (L.take (t2 + 1)) → (-9223372036854775808 : Int) ≤ ((t2 : Int) + 1) ∧ ((t2 : Int) + 1) < 9223372036854775808 ∧ ∃ m', m' < m2 ∧ ∃ t3 : Nat, [Value.int .u32 (v : Int), Value.int .i64 ((t2 : Int) + 1)] = [.int .u32 (roundOf gen (L.take t3) : Nat), .int .i64 t3] ∧ m' + t3 = l.length ∧ w17 = w17 := fun v hv => ⟨by omega, by omega, m2 - 1, by omega, t2 + 1, by rw [hv]; rfl, by omega, rfl⟩
      refine ⟨xd, hxd, by omega, by omega, x.a, x.bs.length, x.c, by rw [Int.toNat_natCast]; exact cx, ?_⟩
      refine (sIs_spec (c := x.c) rx).mono fun u w24 ⟨he, hw⟩ => ⟨_, he, fun hs => ?_, fun hs => ?_⟩
      · subst hw
        obtain ⟨h64, hmk⟩ := of_decide_eq_true hs
        refine (at_spec (i := 1) rx ex (by omega) (by omega)).mono fun u w28 ⟨he, hw⟩ => ⟨_, he, fun hgen => ?_, fun hgen => ?_⟩
        · subst hw
          refine (at_spec (i := 5) rx ex (by omega) (by omega)).mono fun u w32 ⟨he, hw⟩ => ⟨_, he, ?_⟩
          subst hw
          rw [max_int]
          exact nx _ (by rw [hst]; unfold roundStep; rw [if_pos ⟨h64, hmk, by omega⟩])
        · subst hw
          exact nx _ (by rw [hst]; unfold roundStep; rw [if_neg (by omega)])
      · subst hw
        have hs' := of_decide_eq_false hs
        exact nx _ (by rw [hst]; unfold roundStep; rw [if_neg (fun h => hs' ⟨h.1, h.2.1⟩)])
    · have htt : t2 = l.length := by omega
      have hfin : scanK L gen = ((r.map BS.bs, t), roundOf gen L) := by unfold scanK; rw [hT, ← hG]
      rw [hfin, htt, List.take_of_length_le (by omega)]
      exact ⟨_, ra, rc, r, rfl, Step.of_no (s011.ext.mono fun b ⟨_, _, h⟩ _ => h) ok, rfl, R11.give s011 (Nat.le_refl _)⟩
  · have hz' : ¬ (standK (L.drop t) gen r.length).2 = 0 := by omega
    have hsl := standK_le (L.drop t) gen r.length
    rw [List.length_drop] at hsl
    simp only [scanG, if_neg hz'] at hG
    have s11 := Step.of_no X11 s7.ok
    have R11 := R7.step s11 fun _ h => h.elim
    have okx : BSok w11 (grow w7 o7) ⟨ba, bc, (standK (L.drop t) gen r.length).1⟩ := ⟨Row.fresh hO.row fun ad ha => (hO.fr ad ha).1, hO.le⟩
    have l7 := s7.size
    obtain ⟨a', c', w39, o39, hr, s39, R39⟩ := R11.push s11.ok (by omega) okx X36 hb hq hq' (by have := X11.size; omega)
    refine ⟨a', _, c', w39, hr, by omega, by omega, k, by omega, t + (standK (L.drop t) gen r.length).2, o39, a', c', _, by rw [Int.natCast_add], by omega, by omega, by rw [List.length_append, List.length_singleton]; omega, (s7.trans s11).trans' s39 fun i hi => .inr hi, R39, ?_⟩
    rw [← hG, List.map_append, List.length_append, List.length_singleton, List.drop_drop]
    simp only [List.map_cons, List.map_nil, List.append_assoc, List.singleton_append, Nat.add_assoc]
theorem rround (h : BsAt w a c l) (hbig : l.length ≤ 100000) (gen : Nat) {End : Int → World → Prop} (hE : ∀ w2, Ext no w w2 → End (roundOf gen (l.map BS.bs) : Nat) w2) :
    ∃ (I2 : Nat → List Value → World → Prop) (m52 : Nat), I2 m52 [.int .u32 0, .int .i64 0] w ∧ ∀ (m53 : Nat) (ww54 : World) (round50 : Int) (i51 : Int), I2 m53 [.int .u32 round50, .int .i64 i51] ww54 →
    (i51 < (l.length : Int) →
      ∃ a56 : Addr, a = some a56 ∧
      0 ≤ (i51 : Int) ∧ (i51 : Int) < (l.length : Int) ∧
      ∃ (x58a : Option Addr) (x58n : Nat) (x58c : Nat), ww54.cell? (a56.add (Int.toNat i51 * 1)) = some (.slice x58a x58n x58c) ∧
      ((x58n : Int) = 64 →
        0 ≤ (i51 : Int) ∧ (i51 : Int) < (l.length : Int) ∧
        ∃ (x61a : Option Addr) (x61n : Nat) (x61c : Nat), ww54.cell? (a56.add (Int.toNat i51 * 1)) = some (.slice x61a x61n x61c) ∧
        ∃ a62 : Addr, x61a = some a62 ∧
        (0 : Int) < (x61n : Int) ∧
        ∃ (x64 : Int), ww54.cell? (a62.add (Int.toNat 0 * 1)) = some (.int .u8 x64) ∧
        (x64 = 197 →
          0 ≤ (i51 : Int) ∧ (i51 : Int) < (l.length : Int) ∧
          ∃ (x67a : Option Addr) (x67n : Nat) (x67c : Nat), ww54.cell? (a56.add (Int.toNat i51 * 1)) = some (.slice x67a x67n x67c) ∧
          (5 : Int) ≤ (x67c : Int) ∧
          Calls Try.prog 56 #[.slice (cutA x67a x67c 1 1) (5 - 1) (x67c - 1)] ww54 fun ee69 ww70 => ∃ (number68 : Int), ee69 = .returned (.int .u32 number68) ∧
          (number68 = gen →
            0 ≤ (i51 : Int) ∧ (i51 : Int) < (l.length : Int) ∧
            ∃ (x73a : Option Addr) (x73n : Nat) (x73c : Nat), ww70.cell? (a56.add (Int.toNat i51 * 1)) = some (.slice x73a x73n x73c) ∧
            (9 : Int) ≤ (x73c : Int) ∧
            Calls Try.prog 56 #[.slice (cutA x73a x73c 5 1) (9 - 5) (x73c - 5)] ww70 fun ee75 ww76 => ∃ (number74 : Int), ee75 = .returned (.int .u32 number74) ∧
            (-9223372036854775808 : Int) ≤ (i51 + 1) ∧ (i51 + 1) < 9223372036854775808 ∧
            ∃ m77, m77 < m53 ∧ I2 m77 [.int .u32 (if (number74 : Int) > round50 then number74 else round50), .int .i64 (i51 + 1)] ww76) ∧
          (number68 ≠ gen →
            (-9223372036854775808 : Int) ≤ (i51 + 1) ∧ (i51 + 1) < 9223372036854775808 ∧
            ∃ m78, m78 < m53 ∧ I2 m78 [.int .u32 round50, .int .i64 (i51 + 1)] ww70)) ∧
        (x64 ≠ 197 →
          (-9223372036854775808 : Int) ≤ (i51 + 1) ∧ (i51 + 1) < 9223372036854775808 ∧
          ∃ m79, m79 < m53 ∧ I2 m79 [.int .u32 round50, .int .i64 (i51 + 1)] ww54)) ∧
      ((x58n : Int) ≠ 64 →
        (-9223372036854775808 : Int) ≤ (i51 + 1) ∧ (i51 + 1) < 9223372036854775808 ∧
        ∃ m80, m80 < m53 ∧ I2 m80 [.int .u32 round50, .int .i64 (i51 + 1)] ww54)) ∧
    ((l.length : Int) ≤ i51 → End round50 ww54) := by
  generalize hL : l.map BS.bs = L at *
  have hLl : L.length = l.length := by rw [← hL, List.length_map]
  refine ⟨fun m vs w1 => ∃ t2 : Nat, vs = [.int .u32 (roundOf gen (L.take t2) : Nat), .int .i64 t2] ∧ m + t2 = l.length ∧ Ext no w w1, l.length, ⟨0, rfl, rfl, Ext.refl _ _⟩, ?_⟩
  rintro m2 w17 rd i ⟨t2, hi, hm2, X17⟩
  simp only [List.cons.injEq, Value.int.injEq, true_and, and_true] at hi
  obtain ⟨rfl, rfl⟩ := hi
  have h11 := h.no X17
  refine ⟨fun h2 => ?_, fun h2 => ?_⟩
  · have htl : t2 < l.length := by omega
    have gt : l[t2]? = some l[t2] := List.getElem?_eq_getElem htl
    have hmt := List.getElem_mem htl
    have gL : L[t2]? = some (l[t2]).bs := by rw [← hL]; exact get_map_bs gt
    generalize l[t2] = x at *
    obtain ⟨xd, rfl, cx0⟩ := h11.cell gt
    obtain ⟨rx, ex⟩ := h11.oks x hmt
    have hst := roundOf_step (gen := gen) gL
    have cx : w17.cell? (xd.add (Int.toNat (t2 : Int) * 1)) = some (.slice x.a x.bs.length x.c) := by rw [Int.toNat_natCast]; exact cx0
    have nx : ∀ (v : Nat) (w2 : World), Ext no w w2 → v = roundOf gen (L.take (t2 + 1)) → (-9223372036854775808 : Int) ≤ ((t2 : Int) + 1) ∧ ((t2 : Int) + 1) < 9223372036854775808 ∧ ∃ m', m' < m2 ∧ ∃ t3 : Nat, [Value.int .u32 (v : Int), Value.int .i64 ((t2 : Int) + 1)] = [.int .u32 (roundOf gen (L.take t3) : Nat), .int .i64 t3] ∧ m' + t3 = l.length ∧ Ext no w w2 := fun v w2 X hv => ⟨by omega, by omega, m2 - 1, by omega, t2 + 1, by rw [hv]; rfl, by omega, X⟩
    refine ⟨xd, rfl, by omega, by omega, x.a, x.bs.length, x.c, cx, fun h64' => ?_, fun h64' => nx _ _ X17 (by rw [hst]; unfold roundStep; rw [if_neg (by omega)])⟩
    have h64 : x.bs.length = 64 := by omega
    obtain ⟨yd, hyd, cy⟩ := byte_cell rx (i := 0) (by omega)
    refine ⟨by omega, by omega, x.a, x.bs.length, x.c, cx, yd, hyd, by omega, _, cy, fun hmk => ?_, fun hmk => nx _ _ X17 (by rw [hst]; unfold roundStep; rw [if_neg (by omega)])⟩
    refine ⟨by omega, by omega, x.a, x.bs.length, x.c, cx, by omega, ?_⟩
    refine (num_in (i := 1) rx ex (by omega)).mono fun u w28 ⟨he, X28⟩ => ⟨_, he, fun hgen => ?_, fun hgen => nx _ _ (X17.trans X28) (by rw [hst]; unfold roundStep; rw [if_neg (by omega)])⟩
    refine ⟨by omega, by omega, x.a, x.bs.length, x.c, X28.cell cx id, by omega, ?_⟩
    refine (num_in (i := 5) (rx.no X28) ex (by omega)).mono fun u w32 ⟨he, X32⟩ => ⟨_, he, ?_⟩
    rw [max_int]
    exact nx _ _ ((X17.trans X28).trans X32) (by rw [hst]; unfold roundStep; rw [if_pos ⟨h64, by omega, by omega⟩])
  · have htt : t2 = l.length := by omega
    have := hE w17 X17
    rw [htt, List.take_of_length_le (by omega)]
    exact this
theorem rScan_spec (ok : Tags w o) (h : BsAt w a c l) (hl : l.length ≤ 100000) {gen : Nat} (hg : gen < 4294967296) :
    Calls Try.prog 40 #[.slice a l.length c, .int .u32 gen] w (fun z w' => ∃ o' ra rc, ∃ r : List BS, z = .returned (.tuple #[.slice ra r.length rc, .int .i64 (scanK (l.map BS.bs) gen).1.2, .int .u32 (scanK (l.map BS.bs) gen).2]) ∧ Step no w o w' o' ∧ r.map BS.bs = (scanK (l.map BS.bs) gen).1.1 ∧ BsRow w' o' ra rc r) := by
  refine (cachetteref10_Scan.go _ _ _ _ (R := fun z w' => ∃ o' ra rc, ∃ r : List BS, z = (.tuple #[.slice ra r.length rc, .int .i64 (scanK (l.map BS.bs) gen).1.2, .int .u32 (scanK (l.map BS.bs) gen).2]) ∧ Step no w o w' o' ∧ r.map BS.bs = (scanK (l.map BS.bs) gen).1.1 ∧ BsRow w' o' ra rc r) ?_).mono fun z w' ⟨u, he, o', ra, rc, r, hu, hw⟩ => ⟨o', ra, rc, r, by rw [he, hu], hw⟩
  unfold cachetteref10_Scan.N
  generalize hL : l.map BS.bs = L at *
  have hLl : L.length = l.length := by rw [← hL, List.length_map]
  obtain ⟨T, hT⟩ : ∃ T, scanG gen (L.length + 1) L 0 = T := ⟨_, rfl⟩
  refine ⟨fun m vs w1 => ∃ (t : Nat) (o1 : Own) (ra : Option Addr) (rc : Nat) (r : List BS), vs = [.slice ra r.length rc, .int .i64 t] ∧ t ≤ L.length ∧ L.length < m + t ∧ r.length ≤ t ∧ Step no w o w1 o1 ∧ BsL w.heap.size w1 o1 ra rc r ∧ (r.map BS.bs ++ (scanG gen m (L.drop t) r.length).1, t + (scanG gen m (L.drop t) r.length).2) = T, L.length + 1, ⟨0, o, none, 0, [], rfl, Nat.zero_le _, by omega, Nat.le_refl _, Step.refl _ ok, BsL.nil _ _ _, by rw [← hT]; simp⟩, ?_⟩
  rintro m w7 ra rn rc i ⟨t, o7, ra', rc', r, hi, ht, hm, hrt, s7, R7, hG⟩
  simp only [List.cons.injEq, Value.slice.injEq, Value.int.injEq, true_and, and_true] at hi
  obtain ⟨⟨rfl, rfl, rfl⟩, rfl⟩ := hi
  obtain ⟨k, rfl⟩ : ∃ k, m = k + 1 := ⟨m - 1, by omega⟩
  have h7 := h.no (s7.ext.mono fun b ⟨_, _, h⟩ _ => h)
  have fin : ∀ {w2 : World} {o2 : Own} {K : Nat → Prop}, Step K w o w2 o2 → (∀ i, K i → False) → BsL w.heap.size w2 o2 ra rc r → (r.map BS.bs, t) = T → ∃ o' ra' rc', ∃ r' : List BS, Value.tuple #[.slice ra r.length rc, .int .i64 t, .int .u32 (roundOf gen L : Nat)] = (.tuple #[.slice ra' r'.length rc', .int .i64 (scanK L gen).1.2, .int .u32 (scanK L gen).2]) ∧ Step no w o w2 o' ∧ r'.map BS.bs = (scanK L gen).1.1 ∧ BsRow w2 o' ra' rc' r' := fun st hK R2 hfin => by
    have hk : scanK L gen = ((r.map BS.bs, t), roundOf gen L) := by unfold scanK; rw [hT, ← hfin]
    rw [hk]
    exact ⟨_, ra, rc, r, rfl, Step.of_no (st.ext.mono fun b ⟨i, _, h⟩ _ => (hK i h).elim) ok, rfl, R2.give st (Nat.le_refl _)⟩
  refine ⟨fun hg0 => ?_, fun hg0 => ?_⟩
  · have hseq : IntKind.u32.wrap (r.length : Int) = (r.length : Int) := by rw [IntKind.wrap_u32]; omega
    refine ⟨by omega, by omega, ?_⟩
    rw [hseq, Int.toNat_natCast]
    have hdl : l.length - t = (l.drop t).length := by rw [List.length_drop]
    rw [hdl]
    have hrec := stands_spec (h7.cut t) (by rw [List.length_drop]; omega) hg (seq := r.length) (by omega)
    rw [List.map_drop, hL] at hrec
    refine hrec.mono fun u w11 ⟨ba, bc, he, hO, X11⟩ => ⟨_, _, _, _, he, fun hz => ?_, fun hz w36 q X36 hb hq hq' => ?_⟩
    · have hz' : (standK (L.drop t) gen r.length).2 = 0 := by omega
      simp only [scanG, hz', if_true, List.append_nil, Nat.add_zero] at hG
      have s11 := Step.of_no X11 s7.ok
      have s011 := s7.trans s11
      refine rround (h7.no X11) hl gen fun w2 X2 => ?_
      have s2 := Step.of_no X2 s11.ok
      rw [hL]
      exact fin (s011.trans s2) (fun _ h => h.elim) ((R7.step s11 fun _ h => h.elim).step s2 fun _ h => h.elim) hG
    · have hz' : ¬ (standK (L.drop t) gen r.length).2 = 0 := by omega
      have hsl := standK_le (L.drop t) gen r.length
      rw [List.length_drop] at hsl
      simp only [scanG, if_neg hz'] at hG
      have s11 := Step.of_no X11 s7.ok
      have R11 := R7.step s11 fun _ h => h.elim
      have okx : BSok w11 (grow w7 o7) ⟨ba, bc, (standK (L.drop t) gen r.length).1⟩ := ⟨Row.fresh hO.row fun ad ha => (hO.fr ad ha).1, hO.le⟩
      have l7 := s7.size
      obtain ⟨a', c', w39, o39, hr, s39, R39⟩ := R11.push s11.ok (by omega) okx X36 hb hq hq' (by have := X11.size; omega)
      refine ⟨a', _, c', w39, hr, by omega, by omega, k, by omega, t + (standK (L.drop t) gen r.length).2, o39, a', c', _, by rw [Int.natCast_add], by omega, by omega, by rw [List.length_append, List.length_singleton]; omega, (s7.trans s11).trans' s39 fun i hi => .inr hi, R39, ?_⟩
      rw [← hG, List.map_append, List.length_append, List.length_singleton, List.drop_drop]
      simp only [List.map_cons, List.map_nil, List.append_assoc, List.singleton_append, Nat.add_assoc]
  · have hg' : gen = 0 := by omega
    subst hg'
    rw [scanG_zero, List.append_nil, Nat.add_zero] at hG
    refine rround h7 hl 0 fun w2 X2 => ?_
    have s2 := Step.of_no X2 s7.ok
    rw [hL]
    exact fin (s7.trans s2) (fun _ h => h.elim) (R7.step s2 fun _ h => h.elim) hG
end
end Go.Proofs.Ytidijnfkcpbkiaa
