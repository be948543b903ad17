/- Journal: predicates of frames. -/
import Derived.Test.YtgcjipbahfpopaaZA
set_option linter.unusedVariables false
set_option linter.unusedSimpArgs false
set_option maxRecDepth 20000
set_option maxHeartbeats 2000000
namespace Go.Proofs.Ytgcjipbahfpopaa
open Go Go.Mx Go.Proofs
/-- journal.Parts -/
def journal_Parts.M (n1 : Int) (R : Value → World → Prop) (w : World) : Prop :=
 bif decide (n1 < 0) then (
 R (.int .i64 0) w) else (
 bif decide (n1 > 4000) then (
 R (.int .i64 0) w) else (
 48 ≠ (0 : Int) ∧ R (.int .i64 (if (1 : Int) > (IntKind.i64.wrap (Int.tdiv (IntKind.i64.wrap ((IntKind.i64.wrap (n1 + 48)) - 1)) 48)) then 1 else (IntKind.i64.wrap (Int.tdiv (IntKind.i64.wrap ((IntKind.i64.wrap (n1 + 48)) - 1)) 48)))) w))

theorem journal_Parts.eq (n1 : Int) (R : Value → World → Prop) (w : World) : mfunc Try.prog [] 12 [.int .i64 n1] R w = journal_Parts.M n1 R w := by kernel_rfl
theorem journal_Parts.ok (n1 : Int) {R : Value → World → Prop} {w : World} (h : journal_Parts.M n1 R w) : Calls Try.prog 12 #[.int .i64 n1] w fun e w' => ∃ v, e = .returned v ∧ R v w' :=
  mfunc_ok follows (H := []) (args := [.int .i64 n1]) (by rw [journal_Parts.eq]; exact h)

def journal_Parts.N (n1 : Int) (R : Value → World → Prop) (w : World) : Prop :=
 (n1 < 0 →
 R (.int .i64 0) w) ∧
 ((0 : Int) ≤ n1 →
 (n1 > 4000 →
 R (.int .i64 0) w) ∧
 (n1 ≤ 4000 →
 R (.int .i64 (if (1 : Int) > (IntKind.i64.wrap (Int.tdiv (IntKind.i64.wrap ((IntKind.i64.wrap (n1 + 48)) - 1)) 48)) then 1 else (IntKind.i64.wrap (Int.tdiv (IntKind.i64.wrap ((IntKind.i64.wrap (n1 + 48)) - 1)) 48)))) w))

theorem journal_Parts.up (n1 : Int) {R : Value → World → Prop} {w : World} (h : journal_Parts.N n1 R w) : journal_Parts.M n1 R w := by
  unfold journal_Parts.M
  unfold journal_Parts.N at h
  refine bif_of (fun c2 => ?_) (fun c2 => ?_)
  · have h := h.1 (of_decide_eq_true c2)
    exact h
  · have h := h.2 (Int.not_lt.1 (of_decide_eq_false c2))
    refine bif_of (fun c3 => ?_) (fun c3 => ?_)
    · have h := h.1 (of_decide_eq_true c3)
      exact h
    · have h := h.2 (Int.not_lt.1 (of_decide_eq_false c3))
      refine ⟨by decide, ?_⟩
      exact h

theorem journal_Parts.go (n1 : Int) {R : Value → World → Prop} {w : World} (h : journal_Parts.N n1 R w) : Calls Try.prog 12 #[.int .i64 n1] w fun e w' => ∃ v, e = .returned v ∧ R v w' := journal_Parts.ok n1 (journal_Parts.up n1 h)
theorem journal_Parts.run (n1 : Int) {V : Value} {Q : World → Prop} {w : World} (h : journal_Parts.N n1 (fun v w' => v = V ∧ Q w') w) : Calls Try.prog 12 #[.int .i64 n1] w (Ret V Q) := (journal_Parts.go n1 h).mono fun e w' ⟨v, he, hv, hq⟩ => ⟨by rw [he, hv], hq⟩

def journal_Parts.F (n1 : Int) : Int :=
  if n1 < 0 then
    0
  else
    if n1 > 4000 then
      0
    else
      (if (1 : Int) > (IntKind.i64.wrap (Int.tdiv (IntKind.i64.wrap ((IntKind.i64.wrap (n1 + 48)) - 1)) 48)) then 1 else (IntKind.i64.wrap (Int.tdiv (IntKind.i64.wrap ((IntKind.i64.wrap (n1 + 48)) - 1)) 48)))
theorem journal_Parts.pure (n1 : Int) {w : World} : Calls Try.prog 12 #[.int .i64 n1] w (Ret (.int .i64 (journal_Parts.F n1)) fun w' => Ext no w w') := by
  refine journal_Parts.run n1 ?_
  unfold journal_Parts.N
  refine ⟨fun c0 => ?_, fun c0 => ?_⟩
  · exact ⟨by unfold journal_Parts.F; rw [if_pos c0], Ext.refl _ _⟩
  · refine ⟨fun c1 => ?_, fun c1 => ?_⟩
    · exact ⟨by unfold journal_Parts.F; rw [if_neg (show ¬ (n1 < 0) from by omega), if_pos c1], Ext.refl _ _⟩
    · exact ⟨by unfold journal_Parts.F; rw [if_neg (show ¬ (n1 < 0) from by omega), if_neg (show ¬ (n1 > 4000) from by omega)], Ext.refl _ _⟩

/-- cachetteref10.Parts -/
def cachetteref10_Parts.M (n1 : Int) (R : Value → World → Prop) (w : World) : Prop :=
 bif decide (n1 < 0) then (
 R (.int .i64 0) w) else (
 bif decide (n1 > 4000) then (
 R (.int .i64 0) w) else (
 bif n1 == 0 then (
 R (.int .i64 1) w) else (
 48 ≠ (0 : Int) ∧ R (.int .i64 (IntKind.i64.wrap (Int.tdiv (IntKind.i64.wrap (n1 + 47)) 48))) w)))

theorem cachetteref10_Parts.eq (n1 : Int) (R : Value → World → Prop) (w : World) : mfunc Try.prog [] 13 [.int .i64 n1] R w = cachetteref10_Parts.M n1 R w := by kernel_rfl
theorem cachetteref10_Parts.ok (n1 : Int) {R : Value → World → Prop} {w : World} (h : cachetteref10_Parts.M n1 R w) : Calls Try.prog 13 #[.int .i64 n1] w fun e w' => ∃ v, e = .returned v ∧ R v w' :=
  mfunc_ok follows (H := []) (args := [.int .i64 n1]) (by rw [cachetteref10_Parts.eq]; exact h)

def cachetteref10_Parts.N (n1 : Int) (R : Value → World → Prop) (w : World) : Prop :=
 (n1 < 0 →
 R (.int .i64 0) w) ∧
 ((0 : Int) ≤ n1 →
 (n1 > 4000 →
 R (.int .i64 0) w) ∧
 (n1 ≤ 4000 →
 (n1 = 0 →
 R (.int .i64 1) w) ∧
 (n1 ≠ 0 →
 R (.int .i64 (IntKind.i64.wrap (Int.tdiv (IntKind.i64.wrap (n1 + 47)) 48))) w)))

theorem cachetteref10_Parts.up (n1 : Int) {R : Value → World → Prop} {w : World} (h : cachetteref10_Parts.N n1 R w) : cachetteref10_Parts.M n1 R w := by
  unfold cachetteref10_Parts.M
  unfold cachetteref10_Parts.N at h
  refine bif_of (fun c2 => ?_) (fun c2 => ?_)
  · have h := h.1 (of_decide_eq_true c2)
    exact h
  · have h := h.2 (Int.not_lt.1 (of_decide_eq_false c2))
    refine bif_of (fun c3 => ?_) (fun c3 => ?_)
    · have h := h.1 (of_decide_eq_true c3)
      exact h
    · have h := h.2 (Int.not_lt.1 (of_decide_eq_false c3))
      refine bif_of (fun c4 => ?_) (fun c4 => ?_)
      · have h := h.1 (beq_t c4)
        exact h
      · have h := h.2 (beq_f c4)
        refine ⟨by decide, ?_⟩
        exact h

theorem cachetteref10_Parts.go (n1 : Int) {R : Value → World → Prop} {w : World} (h : cachetteref10_Parts.N n1 R w) : Calls Try.prog 13 #[.int .i64 n1] w fun e w' => ∃ v, e = .returned v ∧ R v w' := cachetteref10_Parts.ok n1 (cachetteref10_Parts.up n1 h)
theorem cachetteref10_Parts.run (n1 : Int) {V : Value} {Q : World → Prop} {w : World} (h : cachetteref10_Parts.N n1 (fun v w' => v = V ∧ Q w') w) : Calls Try.prog 13 #[.int .i64 n1] w (Ret V Q) := (cachetteref10_Parts.go n1 h).mono fun e w' ⟨v, he, hv, hq⟩ => ⟨by rw [he, hv], hq⟩

def cachetteref10_Parts.F (n1 : Int) : Int :=
  if n1 < 0 then
    0
  else
    if n1 > 4000 then
      0
    else
      if n1 = 0 then
        1
      else
        (IntKind.i64.wrap (Int.tdiv (IntKind.i64.wrap (n1 + 47)) 48))
theorem cachetteref10_Parts.pure (n1 : Int) {w : World} : Calls Try.prog 13 #[.int .i64 n1] w (Ret (.int .i64 (cachetteref10_Parts.F n1)) fun w' => Ext no w w') := by
  refine cachetteref10_Parts.run n1 ?_
  unfold cachetteref10_Parts.N
  refine ⟨fun c0 => ?_, fun c0 => ?_⟩
  · exact ⟨by unfold cachetteref10_Parts.F; rw [if_pos c0], Ext.refl _ _⟩
  · refine ⟨fun c1 => ?_, fun c1 => ?_⟩
    · exact ⟨by unfold cachetteref10_Parts.F; rw [if_neg (show ¬ (n1 < 0) from by omega), if_pos c1], Ext.refl _ _⟩
    · refine ⟨fun c2 => ?_, fun c2 => ?_⟩
      · exact ⟨by unfold cachetteref10_Parts.F; rw [if_neg (show ¬ (n1 < 0) from by omega), if_neg (show ¬ (n1 > 4000) from by omega), if_pos c2], Ext.refl _ _⟩
      · exact ⟨by unfold cachetteref10_Parts.F; rw [if_neg (show ¬ (n1 < 0) from by omega), if_neg (show ¬ (n1 > 4000) from by omega), if_neg c2], Ext.refl _ _⟩

/-- (*journal.sector).put -/
def journal_sector_put.M (s1 : Option Addr) (a9 : Option Addr) (ac : Nat) (aa : Nat) (R : Value → World → Prop) (w : World) : Prop :=
 s1.elim False fun a3 =>
 ∃ (a4 : Option Addr) (a1 : Nat) (a8 : Nat), w.cell? a3 = some (.slice a4 a1 a8) ∧
 ∃ (a6 : Option Addr) (a2 : Nat) (a5 : Nat) (a0 : World), (Builtin.append_ #[67, 23] 67 #[.slice a4 a1 a8, .slice a9 ac aa]).run Try.prog w = .ok (.slice a6 a2 a5) a0 ∧
 s1.elim False fun a7 =>
 canStore a0 (a7.add 0) ∧
 thenW (a0.setCell (a7.add 0) (.slice a6 a2 a5)) fun ab =>
 R (.tuple #[]) ab

theorem journal_sector_put.eq (s1 : Option Addr) (l2a : Option Addr) (l2n : Nat) (l2c : Nat) (R : Value → World → Prop) (w : World) : mfunc Try.prog [] 34 [.pointer s1, .slice l2a l2n l2c] R w = journal_sector_put.M s1 l2a l2n l2c R w := by kernel_rfl
theorem journal_sector_put.ok (s1 : Option Addr) (a1 : Option Addr) (a0 : Nat) (a2 : Nat) {R : Value → World → Prop} {w : World} (h : journal_sector_put.M s1 a1 a0 a2 R w) : Calls Try.prog 34 #[.pointer s1, .slice a1 a0 a2] w fun e w' => ∃ v, e = .returned v ∧ R v w' :=
  mfunc_ok follows (H := []) (args := [.pointer s1, .slice a1 a0 a2]) (by rw [journal_sector_put.eq]; exact h)

def journal_sector_put.N (s1 : Option Addr) (a8 : Option Addr) (ab : Nat) (a9 : Nat) (R : Value → World → Prop) (w : World) : Prop :=
 ∃ a3 : Addr, s1 = some a3 ∧
 ∃ (a7 : Option Addr) (a5 : Nat) (a1 : Nat), w.cell? a3 = some (.slice a7 a5 a1) ∧
 ∃ (a2 : Option Addr) (a6 : Nat) (a4 : Nat) (a0 : World), (Builtin.append_ #[67, 23] 67 #[.slice a7 a5 a1, .slice a8 ab a9]).run Try.prog w = .ok (.slice a2 a6 a4) a0 ∧
 canStore a0 (a3.add 0) ∧
 thenW (a0.setCell (a3.add 0) (.slice a2 a6 a4)) fun aa =>
 R (.tuple #[]) aa

theorem journal_sector_put.up (s1 : Option Addr) (a1 : Option Addr) (a0 : Nat) (a2 : Nat) {R : Value → World → Prop} {w : World} (h : journal_sector_put.N s1 a1 a0 a2 R w) : journal_sector_put.M s1 a1 a0 a2 R w := by
  unfold journal_sector_put.M
  unfold journal_sector_put.N at h
  obtain ⟨a3, a4, h⟩ := h
  refine elim_some a4 ?_
  obtain ⟨ac, a9, a5, a7, h⟩ := h
  refine ⟨ac, a9, a5, a7, ?_⟩
  obtain ⟨a6, ab, a8, aa, hr, h⟩ := h
  refine ⟨a6, ab, a8, aa, hr, ?_⟩
  refine elim_some a4 ?_
  obtain ⟨hcs, h⟩ := h
  refine ⟨hcs, thenW_in fun ad e8 => ?_⟩
  replace h := thenW_out h e8
  exact h

theorem journal_sector_put.go (s1 : Option Addr) (a1 : Option Addr) (a0 : Nat) (a2 : Nat) {R : Value → World → Prop} {w : World} (h : journal_sector_put.N s1 a1 a0 a2 R w) : Calls Try.prog 34 #[.pointer s1, .slice a1 a0 a2] w fun e w' => ∃ v, e = .returned v ∧ R v w' := journal_sector_put.ok s1 a1 a0 a2 (journal_sector_put.up s1 a1 a0 a2 h)
theorem journal_sector_put.run (s1 : Option Addr) (a1 : Option Addr) (a0 : Nat) (a2 : Nat) {V : Value} {Q : World → Prop} {w : World} (h : journal_sector_put.N s1 a1 a0 a2 (fun v w' => v = V ∧ Q w') w) : Calls Try.prog 34 #[.pointer s1, .slice a1 a0 a2] w (Ret V Q) := (journal_sector_put.go s1 a1 a0 a2 h).mono fun e w' ⟨v, he, hv, hq⟩ => ⟨by rw [he, hv], hq⟩

/-- (*journal.sector).number -/
def journal_sector_number.M (s1 : Option Addr) (n2 : Int) (R : Value → World → Prop) (w : World) : Prop :=
 0 ≤ (24 : Int) ∧
 0 ≤ (16 : Int) ∧
 0 ≤ (8 : Int) ∧
 thenW (w.alloc (.cells #[.int .u8 (IntKind.u8.wrap (Int.fdiv n2 (2 ^ (min (Int.toNat 24) (IntKind.bits .u32))))), .int .u8 (IntKind.u8.wrap (Int.fdiv n2 (2 ^ (min (Int.toNat 16) (IntKind.bits .u32))))), .int .u8 (IntKind.u8.wrap (Int.fdiv n2 (2 ^ (min (Int.toNat 8) (IntKind.bits .u32))))), .int .u8 (IntKind.u8.wrap n2)] 5)) fun a2 =>
 Calls Try.prog 34 #[.pointer s1, .slice (some (blk w.heap.size)) 4 4] a2 fun a0 a1 => a0 = .returned (.tuple #[]) ∧
 R (.tuple #[]) a1

theorem journal_sector_number.eq (s1 : Option Addr) (n2 : Int) (R : Value → World → Prop) (w : World) : mfunc Try.prog [] 35 [.pointer s1, .int .u32 n2] R w = journal_sector_number.M s1 n2 R w := by kernel_rfl
theorem journal_sector_number.ok (s1 : Option Addr) (n2 : Int) {R : Value → World → Prop} {w : World} (h : journal_sector_number.M s1 n2 R w) : Calls Try.prog 35 #[.pointer s1, .int .u32 n2] w fun e w' => ∃ v, e = .returned v ∧ R v w' :=
  mfunc_ok follows (H := []) (args := [.pointer s1, .int .u32 n2]) (by rw [journal_sector_number.eq]; exact h)

def journal_sector_number.N (s1 : Option Addr) (n2 : Int) (R : Value → World → Prop) (w : World) : Prop :=
 ∀ (a0 : World) (q4 : Nat), Ext no w a0 → Blk a0 q4 5 [.int .u8 (IntKind.u8.wrap (n2 / 16777216)), .int .u8 (IntKind.u8.wrap (n2 / 65536)), .int .u8 (IntKind.u8.wrap (n2 / 256)), .int .u8 (IntKind.u8.wrap n2)] → w.heap.size ≤ q4 → q4 < a0.heap.size →
 Calls Try.prog 34 #[.pointer s1, .slice (some (blk q4)) 4 4] a0 fun a1 a2 => a1 = .returned (.tuple #[]) ∧
 R (.tuple #[]) a2

theorem journal_sector_number.up (s1 : Option Addr) (n2 : Int) {R : Value → World → Prop} {w : World} (h : journal_sector_number.N s1 n2 R w) : journal_sector_number.M s1 n2 R w := by
  unfold journal_sector_number.M
  unfold journal_sector_number.N at h
  refine ⟨by decide, ?_⟩
  try rw [show (2 ^ (min (Int.toNat 24) (IntKind.bits .u32)) : Int) = 16777216 from rfl]
  try rw [Int.fdiv_eq_ediv_of_nonneg n2 (by decide : (0 : Int) ≤ 16777216)]
  refine ⟨by decide, ?_⟩
  try rw [show (2 ^ (min (Int.toNat 16) (IntKind.bits .u32)) : Int) = 65536 from rfl]
  try rw [Int.fdiv_eq_ediv_of_nonneg n2 (by decide : (0 : Int) ≤ 65536)]
  refine ⟨by decide, ?_⟩
  try rw [show (2 ^ (min (Int.toNat 8) (IntKind.bits .u32)) : Int) = 256 from rfl]
  try rw [Int.fdiv_eq_ediv_of_nonneg n2 (by decide : (0 : Int) ≤ 256)]
  refine thenW_in fun a0 e3 => ?_
  have h := h a0 w.heap.size ((Ext.refl no w).x_alloc e3) (Blk.of_new e3) ((Ext.refl no w)).size (size_lt_alloc e3)
  refine h.mono fun a1 a2 h => ?_
  obtain ⟨he, h⟩ := h
  refine ⟨he, ?_⟩
  exact h

theorem journal_sector_number.go (s1 : Option Addr) (n2 : Int) {R : Value → World → Prop} {w : World} (h : journal_sector_number.N s1 n2 R w) : Calls Try.prog 35 #[.pointer s1, .int .u32 n2] w fun e w' => ∃ v, e = .returned v ∧ R v w' := journal_sector_number.ok s1 n2 (journal_sector_number.up s1 n2 h)
theorem journal_sector_number.run (s1 : Option Addr) (n2 : Int) {V : Value} {Q : World → Prop} {w : World} (h : journal_sector_number.N s1 n2 (fun v w' => v = V ∧ Q w') w) : Calls Try.prog 35 #[.pointer s1, .int .u32 n2] w (Ret V Q) := (journal_sector_number.go s1 n2 h).mono fun e w' ⟨v, he, hv, hq⟩ => ⟨by rw [he, hv], hq⟩

/-- (journal.sector).at -/
def journal_sector_at.M (a1 : Option Addr) (a4 : Nat) (a3 : Nat) (i2 : Int) (R : Value → World → Prop) (w : World) : Prop :=
 (0 : Int) ≤ ((IntKind.i64.wrap (i2 + 4)) : Int) ∧ ((IntKind.i64.wrap (i2 + 4)) : Int) ≤ (a3 : Int) ∧ (0 : Int) ≤ (i2 : Int) ∧ (i2 : Int) ≤ ((IntKind.i64.wrap (i2 + 4)) : Int) ∧
 ∃ (I0 : Nat → List Value → World → Prop) (m5 : Nat), I0 m5 [.int .u32 0, .int .i64 0] w ∧ ∀ (m6 : Nat) (a0 : World) (n3 : Int) (t4 : Int), I0 m6 [.int .u32 n3, .int .i64 t4] a0 →
 bif decide (t4 < (((Int.toNat (IntKind.i64.wrap (i2 + 4))) - (Int.toNat i2) : Nat) : Int)) then (
 (if a3 = Int.toNat i2 then a1 else Option.map (fun z : Addr => z.add ((Int.toNat i2) * 1)) a1).elim False fun a8 =>
 0 ≤ (t4 : Int) ∧ (t4 : Int) < (((Int.toNat (IntKind.i64.wrap (i2 + 4))) - (Int.toNat i2) : Nat) : Int) ∧
 ∃ (x9 : Int), a0.cell? (a8.add (Int.toNat t4 * 1)) = some (.int .u8 x9) ∧
 0 ≤ (8 : Int) ∧
 ∃ a2, a2 < m6 ∧ I0 a2 [.int .u32 (IntKind.u32.wrap ((BitVec.ofInt (IntKind.bits .u32) (IntKind.u32.wrap (n3 * 2 ^ (min (Int.toNat 8) (IntKind.bits .u32)))) ||| BitVec.ofInt (IntKind.bits .u32) (IntKind.u32.wrap x9)).toNat)), .int .i64 (IntKind.i64.wrap (t4 + 1))] a0) else (
 R (.int .u32 n3) a0)

theorem journal_sector_at.eq (s1a : Option Addr) (s1n : Nat) (s1c : Nat) (i2 : Int) (R : Value → World → Prop) (w : World) : mfunc Try.prog [(0, [11, 12], [(4, (.one (.int .u32))), (13, (.one (.int .i64)))])] 39 [.slice s1a s1n s1c, .int .i64 i2] R w = journal_sector_at.M s1a s1n s1c i2 R w := by kernel_rfl
theorem journal_sector_at.ok (a2 : Option Addr) (a0 : Nat) (a1 : Nat) (i2 : Int) {R : Value → World → Prop} {w : World} (h : journal_sector_at.M a2 a0 a1 i2 R w) : Calls Try.prog 39 #[.slice a2 a0 a1, .int .i64 i2] w fun e w' => ∃ v, e = .returned v ∧ R v w' :=
  mfunc_ok follows (H := [(0, [11, 12], [(4, (.one (.int .u32))), (13, (.one (.int .i64)))])]) (args := [.slice a2 a0 a1, .int .i64 i2]) (by rw [journal_sector_at.eq]; exact h)

def journal_sector_at.N (a4 : Option Addr) (a5 : Nat) (a2 : Nat) (i2 : Int) (R : Value → World → Prop) (w : World) : Prop :=
 (-9223372036854775808 : Int) ≤ (i2 + 4) ∧ (i2 + 4) < 9223372036854775808 ∧
 (0 : Int) ≤ ((i2 + 4) : Int) ∧ ((i2 + 4) : Int) ≤ (a2 : Int) ∧ (0 : Int) ≤ (i2 : Int) ∧ (i2 : Int) ≤ ((i2 + 4) : Int) ∧ 
 ∃ (I0 : Nat → List Value → World → Prop) (m5 : Nat), I0 m5 [.int .u32 0, .int .i64 0] w ∧ ∀ (m6 : Nat) (a0 : World) (n3 : Int) (t4 : Int), I0 m6 [.int .u32 n3, .int .i64 t4] a0 →
 (t4 < (((Int.toNat (i2 + 4)) - (Int.toNat i2) : Nat) : Int) →
 ∃ a9 : Addr, cutA a4 a2 (Int.toNat i2) 1 = some a9 ∧
 0 ≤ (t4 : Int) ∧ (t4 : Int) < (((Int.toNat (i2 + 4)) - (Int.toNat i2) : Nat) : Int) ∧
 ∃ (a3 : Int), a0.cell? (a9.add (Int.toNat t4 * 1)) = some (.int .u8 a3) ∧
 (-9223372036854775808 : Int) ≤ (t4 + 1) ∧ (t4 + 1) < 9223372036854775808 ∧
 ∃ a1, a1 < m6 ∧ I0 a1 [.int .u32 (IntKind.u32.wrap ((BitVec.ofInt (IntKind.bits .u32) (IntKind.u32.wrap (n3 * 256)) ||| BitVec.ofInt (IntKind.bits .u32) (IntKind.u32.wrap a3)).toNat)), .int .i64 (t4 + 1)] a0) ∧
 ((((Int.toNat (i2 + 4)) - (Int.toNat i2) : Nat) : Int) ≤ t4 →
 R (.int .u32 n3) a0)

theorem journal_sector_at.up (a5 : Option Addr) (a6 : Nat) (a7 : Nat) (i2 : Int) {R : Value → World → Prop} {w : World} (h : journal_sector_at.N a5 a6 a7 i2 R w) : journal_sector_at.M a5 a6 a7 i2 R w := by
  unfold journal_sector_at.M
  unfold journal_sector_at.N at h
  obtain ⟨a0, a4, h⟩ := h
  try rw [w64 a0 a4]
  obtain ⟨aa, a1, a3, ad, h⟩ := h
  refine ⟨aa, a1, a3, ad, ?_⟩
  obtain ⟨I0, m5, h0, h⟩ := h
  refine ⟨I0, m5, h0, fun m6 ac n3 t4 hI => ?_⟩
  have h := h m6 ac n3 t4 hI
  refine bif_of (fun c8 => ?_) (fun c8 => ?_)
  · have h := h.1 (of_decide_eq_true c8)
    obtain ⟨a9, ab, h⟩ := h
    refine elim_some ab ?_
    obtain ⟨a1, a3, h⟩ := h
    refine ⟨a1, a3, ?_⟩
    obtain ⟨ae, a2, h⟩ := h
    refine ⟨ae, a2, ?_⟩
    refine ⟨by decide, ?_⟩
    try rw [show (2 ^ (min (Int.toNat 8) (IntKind.bits .u32)) : Int) = 256 from rfl]
    obtain ⟨a0, a4, h⟩ := h
    try rw [w64 a0 a4]
    obtain ⟨a8, hk, h⟩ := h
    exact ⟨a8, hk, h⟩
  · have h := h.2 (Int.not_lt.1 (of_decide_eq_false c8))
    exact h

theorem journal_sector_at.go (a2 : Option Addr) (a0 : Nat) (a1 : Nat) (i2 : Int) {R : Value → World → Prop} {w : World} (h : journal_sector_at.N a2 a0 a1 i2 R w) : Calls Try.prog 39 #[.slice a2 a0 a1, .int .i64 i2] w fun e w' => ∃ v, e = .returned v ∧ R v w' := journal_sector_at.ok a2 a0 a1 i2 (journal_sector_at.up a2 a0 a1 i2 h)
theorem journal_sector_at.run (a2 : Option Addr) (a0 : Nat) (a1 : Nat) (i2 : Int) {V : Value} {Q : World → Prop} {w : World} (h : journal_sector_at.N a2 a0 a1 i2 (fun v w' => v = V ∧ Q w') w) : Calls Try.prog 39 #[.slice a2 a0 a1, .int .i64 i2] w (Ret V Q) := (journal_sector_at.go a2 a0 a1 i2 h).mono fun e w' ⟨v, he, hv, hq⟩ => ⟨by rw [he, hv], hq⟩

/-- (journal.sector).is -/
def journal_sector_is.M (a1 : Option Addr) (a0 : Nat) (a3 : Nat) (R : Value → World → Prop) (w : World) : Prop :=
 bif (a0 : Int) == 64 then (
 a1.elim False fun a2 =>
 0 ≤ (0 : Int) ∧ (0 : Int) < (a0 : Int) ∧
 ∃ (x3 : Int), w.cell? (a2.add (Int.toNat 0 * 1)) = some (.int .u8 x3) ∧
 R (.bool (x3 == 197)) w) else (
 R (.bool false) w)

theorem journal_sector_is.eq (s1a : Option Addr) (s1n : Nat) (s1c : Nat) (R : Value → World → Prop) (w : World) : mfunc Try.prog [] 38 [.slice s1a s1n s1c] R w = journal_sector_is.M s1a s1n s1c R w := by kernel_rfl
theorem journal_sector_is.ok (a2 : Option Addr) (a0 : Nat) (a1 : Nat) {R : Value → World → Prop} {w : World} (h : journal_sector_is.M a2 a0 a1 R w) : Calls Try.prog 38 #[.slice a2 a0 a1] w fun e w' => ∃ v, e = .returned v ∧ R v w' :=
  mfunc_ok follows (H := []) (args := [.slice a2 a0 a1]) (by rw [journal_sector_is.eq]; exact h)

def journal_sector_is.N (a1 : Option Addr) (a0 : Nat) (a2 : Nat) (R : Value → World → Prop) (w : World) : Prop :=
 ((a0 : Int) = 64 →
 ∃ a3 : Addr, a1 = some a3 ∧
 (0 : Int) < (a0 : Int) ∧
 ∃ (x5 : Int), w.cell? (a3.add (Int.toNat 0 * 1)) = some (.int .u8 x5) ∧
 R (.bool (x5 == 197)) w) ∧
 ((a0 : Int) ≠ 64 →
 R (.bool false) w)

theorem journal_sector_is.up (a0 : Option Addr) (a1 : Nat) (a2 : Nat) {R : Value → World → Prop} {w : World} (h : journal_sector_is.N a0 a1 a2 R w) : journal_sector_is.M a0 a1 a2 R w := by
  unfold journal_sector_is.M
  unfold journal_sector_is.N at h
  refine bif_of (fun c2 => ?_) (fun c2 => ?_)
  · have h := h.1 (beq_t c2)
    obtain ⟨a3, a6, h⟩ := h
    refine elim_some a6 ?_
    obtain ⟨a5, h⟩ := h
    refine ⟨by decide, a5, ?_⟩
    obtain ⟨x5, a4, h⟩ := h
    refine ⟨x5, a4, ?_⟩
    exact h
  · have h := h.2 (beq_f c2)
    exact h

theorem journal_sector_is.go (a2 : Option Addr) (a0 : Nat) (a1 : Nat) {R : Value → World → Prop} {w : World} (h : journal_sector_is.N a2 a0 a1 R w) : Calls Try.prog 38 #[.slice a2 a0 a1] w fun e w' => ∃ v, e = .returned v ∧ R v w' := journal_sector_is.ok a2 a0 a1 (journal_sector_is.up a2 a0 a1 h)
theorem journal_sector_is.run (a2 : Option Addr) (a0 : Nat) (a1 : Nat) {V : Value} {Q : World → Prop} {w : World} (h : journal_sector_is.N a2 a0 a1 (fun v w' => v = V ∧ Q w') w) : Calls Try.prog 38 #[.slice a2 a0 a1] w (Ret V Q) := (journal_sector_is.go a2 a0 a1 h).mono fun e w' ⟨v, he, hv, hq⟩ => ⟨by rw [he, hv], hq⟩

/-- journal.Frame -/
def journal_Frame.M (al : Int) (a5 : Int) (aw : Int) (b7 : Option Addr) (a6 : Nat) (ay : Nat) (R : Value → World → Prop) (w : World) : Prop :=
 Calls Try.prog 12 #[.int .i64 (a6 : Int)] w fun b8 am => ∃ (a1 : Int), b8 = .returned (.int .i64 a1) ∧
 bif a1 == 0 then (
 R (.tuple #[.slice none 0 0, .int .i64 3]) am) else (
 bif al == 0 then (
 R (.tuple #[.slice none 0 0, .int .i64 1]) am) else (
 bif a5 == 0 then (
 R (.tuple #[.slice none 0 0, .int .i64 1]) am) else (
 ∃ (I1 : Nat → List Value → World → Prop) (b9 : Nat), I1 b9 [.slice none 0 0, .int .i64 0] am ∧ ∀ (b5 : Nat) (aa : World) (a3 : Option Addr) (a4 : Nat) (a2 : Nat) (t9 : Int), I1 b5 [.slice a3 a4 a2, .int .i64 t9] aa →
 bif decide (t9 < a1) then (
 (0 : Int) ≤ ((if ((a6 : Int) : Int) < (IntKind.i64.wrap ((48 : Int) * (IntKind.i64.wrap (t9 + 1)))) then (a6 : Int) else (IntKind.i64.wrap ((48 : Int) * (IntKind.i64.wrap (t9 + 1))))) : Int) ∧ ((if ((a6 : Int) : Int) < (IntKind.i64.wrap ((48 : Int) * (IntKind.i64.wrap (t9 + 1)))) then (a6 : Int) else (IntKind.i64.wrap ((48 : Int) * (IntKind.i64.wrap (t9 + 1))))) : Int) ≤ (ay : Int) ∧ (0 : Int) ≤ ((IntKind.i64.wrap ((48 : Int) * t9)) : Int) ∧ ((IntKind.i64.wrap ((48 : Int) * t9)) : Int) ≤ ((if ((a6 : Int) : Int) < (IntKind.i64.wrap ((48 : Int) * (IntKind.i64.wrap (t9 + 1)))) then (a6 : Int) else (IntKind.i64.wrap ((48 : Int) * (IntKind.i64.wrap (t9 + 1))))) : Int) ∧
 ∃ (aj : Option Addr) (ad : Nat) (ah : Nat) (a0 : World), (Instr.makeSlice 67 (.int .i64 0) (.int .i64 64)).run Try.prog aa = .ok (.slice aj ad ah) a0 ∧
 thenW (a0.alloc (.cells #[.slice none 0 0] 67)) fun ac =>
 canStore ac ((blk a0.heap.size).add 0) ∧
 thenW (ac.setCell ((blk a0.heap.size).add 0) (.slice aj ad ah)) fun ae =>
 thenW (ae.alloc (.cells #[.int .u8 197] 5)) fun b4 =>
 Calls Try.prog 34 #[.pointer (some (blk a0.heap.size)), .slice (some (blk ae.heap.size)) 1 1] b4 fun b1 an => b1 = .returned (.tuple #[]) ∧
 Calls Try.prog 35 #[.pointer (some (blk a0.heap.size)), .int .u32 al] an fun b2 aq => b2 = .returned (.tuple #[]) ∧
 Calls Try.prog 35 #[.pointer (some (blk a0.heap.size)), .int .u32 a5] aq fun b3 ap => b3 = .returned (.tuple #[]) ∧
 Calls Try.prog 35 #[.pointer (some (blk a0.heap.size)), .int .u32 aw] ap fun az ai => az = .returned (.tuple #[]) ∧
 thenW (ai.alloc (.cells #[.int .u8 (IntKind.u8.wrap t9), .int .u8 (IntKind.u8.wrap a1), .int .u8 (IntKind.u8.wrap (((Int.toNat (if ((a6 : Int) : Int) < (IntKind.i64.wrap ((48 : Int) * (IntKind.i64.wrap (t9 + 1)))) then (a6 : Int) else (IntKind.i64.wrap ((48 : Int) * (IntKind.i64.wrap (t9 + 1)))))) - (Int.toNat (IntKind.i64.wrap ((48 : Int) * t9))) : Nat) : Int))] 5)) fun ax =>
 Calls Try.prog 34 #[.pointer (some (blk a0.heap.size)), .slice (some (blk ai.heap.size)) 3 3] ax fun b0 ao => b0 = .returned (.tuple #[]) ∧
 Calls Try.prog 34 #[.pointer (some (blk a0.heap.size)), .slice (if ay = Int.toNat (IntKind.i64.wrap ((48 : Int) * t9)) then b7 else Option.map (fun z : Addr => z.add ((Int.toNat (IntKind.i64.wrap ((48 : Int) * t9))) * 1)) b7) ((Int.toNat (if ((a6 : Int) : Int) < (IntKind.i64.wrap ((48 : Int) * (IntKind.i64.wrap (t9 + 1)))) then (a6 : Int) else (IntKind.i64.wrap ((48 : Int) * (IntKind.i64.wrap (t9 + 1)))))) - (Int.toNat (IntKind.i64.wrap ((48 : Int) * t9)))) (ay - (Int.toNat (IntKind.i64.wrap ((48 : Int) * t9))))] ao fun ar a9 => ar = .returned (.tuple #[]) ∧
 ∃ (a8 : Option Addr) (au : Nat) (a7 : Nat), a9.cell? (blk a0.heap.size) = some (.slice a8 au a7) ∧
 (0 : Int) ≤ (64 : Int) ∧ (64 : Int) ≤ (a7 : Int) ∧
 thenW (a9.alloc (.cells #[.slice (if a7 = 0 then a8 else Option.map (fun z : Addr => z.add (0 * 1)) a8) ((Int.toNat 64) - 0) (a7 - 0)] 23)) fun av =>
 ∃ (af : Option Addr) (ak : Nat) (ag : Nat) (ab : World), (Builtin.append_ #[25, 25] 25 #[.slice a3 a4 a2, .slice (some (blk a9.heap.size)) 1 1]).run Try.prog av = .ok (.slice af ak ag) ab ∧
 ∃ b6, b6 < b5 ∧ I1 b6 [.slice af ak ag, .int .i64 (IntKind.i64.wrap (t9 + 1))] ab) else (
 R (.tuple #[.slice a3 a4 a2, .int .i64 0]) aa))))

theorem journal_Frame.eq (gen1 : Int) (round2 : Int) (seq3 : Int) (b4a : Option Addr) (b4n : Nat) (b4c : Nat) (R : Value → World → Prop) (w : World) : mfunc Try.prog [(1, [0, 1, 2, 3, 10, 28], [(8, (.one .slice)), (29, (.one (.int .i64)))])] 9 [.int .u32 gen1, .int .u32 round2, .int .u32 seq3, .slice b4a b4n b4c] R w = journal_Frame.M gen1 round2 seq3 b4a b4n b4c R w := by kernel_rfl
theorem journal_Frame.ok (a1 : Int) (a0 : Int) (a2 : Int) (a5 : Option Addr) (a3 : Nat) (a4 : Nat) {R : Value → World → Prop} {w : World} (h : journal_Frame.M a1 a0 a2 a5 a3 a4 R w) : Calls Try.prog 9 #[.int .u32 a1, .int .u32 a0, .int .u32 a2, .slice a5 a3 a4] w fun e w' => ∃ v, e = .returned v ∧ R v w' :=
  mfunc_ok follows (H := [(1, [0, 1, 2, 3, 10, 28], [(8, (.one .slice)), (29, (.one (.int .i64)))])]) (args := [.int .u32 a1, .int .u32 a0, .int .u32 a2, .slice a5 a3 a4]) (by rw [journal_Frame.eq]; exact h)

def journal_Frame.N (ag : Int) (a2 : Int) (b1 : Int) (bc : Option Addr) (a4 : Nat) (b2 : Nat) (R : Value → World → Prop) (w : World) : Prop :=
 ((journal_Parts.F (a4 : Int)) = 0 →
 ∀ (a7 : World), Ext no w a7 →
 R (.tuple #[.slice none 0 0, .int .i64 3]) a7) ∧
 ((journal_Parts.F (a4 : Int)) ≠ 0 →
 (ag = 0 →
 ∀ (a7 : World), Ext no w a7 →
 R (.tuple #[.slice none 0 0, .int .i64 1]) a7) ∧
 (ag ≠ 0 →
 (a2 = 0 →
 ∀ (a7 : World), Ext no w a7 →
 R (.tuple #[.slice none 0 0, .int .i64 1]) a7) ∧
 (a2 ≠ 0 →
 ∀ (a7 : World), Ext no w a7 →
 ∃ (I1 : Nat → List Value → World → Prop) (bb : Nat), I1 bb [.slice none 0 0, .int .i64 0] a7 ∧ ∀ (b9 : Nat) (ad : World) (a3 : Option Addr) (a5 : Nat) (a1 : Nat) (a0 : Int), I1 b9 [.slice a3 a5 a1, .int .i64 a0] ad →
 (a0 < (journal_Parts.F (a4 : Int)) →
 (-9223372036854775808 : Int) ≤ ((48 : Int) * a0) ∧ ((48 : Int) * a0) < 9223372036854775808 ∧
 (-9223372036854775808 : Int) ≤ (a0 + 1) ∧ (a0 + 1) < 9223372036854775808 ∧
 (-9223372036854775808 : Int) ≤ ((48 : Int) * (a0 + 1)) ∧ ((48 : Int) * (a0 + 1)) < 9223372036854775808 ∧
 (0 : Int) ≤ ((if ((a4 : Int) : Int) < ((48 : Int) * (a0 + 1)) then (a4 : Int) else ((48 : Int) * (a0 + 1))) : Int) ∧ ((if ((a4 : Int) : Int) < ((48 : Int) * (a0 + 1)) then (a4 : Int) else ((48 : Int) * (a0 + 1))) : Int) ≤ (b2 : Int) ∧ (0 : Int) ≤ (((48 : Int) * a0) : Int) ∧ (((48 : Int) * a0) : Int) ≤ ((if ((a4 : Int) : Int) < ((48 : Int) * (a0 + 1)) then (a4 : Int) else ((48 : Int) * (a0 + 1))) : Int) ∧ 
 ∃ (am : Option Addr) (ap : Nat) (al : Nat) (af : World), (Instr.makeSlice 67 (.int .i64 0) (.int .i64 64)).run Try.prog ad = .ok (.slice am ap al) af ∧
 ∀ (a8 : World) (a6 : Nat), Ext no af a8 → Blk a8 a6 67 [.slice none 0 0] → af.heap.size ≤ a6 → a6 < a8.heap.size →
 canStore a8 ((blk a6).add 0) ∧
 thenW (a8.setCell ((blk a6).add 0) (.slice am ap al)) fun ah =>
 ∀ (ab : World) (au : Nat), Ext no ah ab → Blk ab au 5 [.int .u8 197] → ah.heap.size ≤ au → au < ab.heap.size →
 Calls Try.prog 34 #[.pointer (some (blk a6)), .slice (some (blk au)) 1 1] ab fun b5 aw => b5 = .returned (.tuple #[]) ∧
 Calls Try.prog 35 #[.pointer (some (blk a6)), .int .u32 ag] aw fun b3 b6 => b3 = .returned (.tuple #[]) ∧
 Calls Try.prog 35 #[.pointer (some (blk a6)), .int .u32 a2] b6 fun b8 ax => b8 = .returned (.tuple #[]) ∧
 Calls Try.prog 35 #[.pointer (some (blk a6)), .int .u32 b1] ax fun b4 ao => b4 = .returned (.tuple #[]) ∧
 ∀ (a9 : World) (av : Nat), Ext no ao a9 → Blk a9 av 5 [.int .u8 (IntKind.u8.wrap a0), .int .u8 (IntKind.u8.wrap (journal_Parts.F (a4 : Int))), .int .u8 (IntKind.u8.wrap (((Int.toNat (if ((a4 : Int) : Int) < ((48 : Int) * (a0 + 1)) then (a4 : Int) else ((48 : Int) * (a0 + 1)))) - (Int.toNat ((48 : Int) * a0)) : Nat) : Int))] → ao.heap.size ≤ av → av < a9.heap.size →
 Calls Try.prog 34 #[.pointer (some (blk a6)), .slice (some (blk av)) 3 3] a9 fun b0 b7 => b0 = .returned (.tuple #[]) ∧
 Calls Try.prog 34 #[.pointer (some (blk a6)), .slice (cutA bc b2 (Int.toNat ((48 : Int) * a0)) 1) ((Int.toNat (if ((a4 : Int) : Int) < ((48 : Int) * (a0 + 1)) then (a4 : Int) else ((48 : Int) * (a0 + 1)))) - (Int.toNat ((48 : Int) * a0))) (b2 - (Int.toNat ((48 : Int) * a0)))] b7 fun ay ac => ay = .returned (.tuple #[]) ∧
 ∃ (an : Option Addr) (az : Nat) (ae : Nat), ac.cell? (blk a6) = some (.slice an az ae) ∧
 (64 : Int) ≤ (ae : Int) ∧ 
 ∀ (aa : World) (ar : Nat), Ext no ac aa → Blk aa ar 23 [.slice an 64 ae] → ac.heap.size ≤ ar → ar < aa.heap.size →
 ∃ (ak : Option Addr) (aq : Nat) (ai : Nat) (aj : World), (Builtin.append_ #[25, 25] 25 #[.slice a3 a5 a1, .slice (some (blk ar)) 1 1]).run Try.prog aa = .ok (.slice ak aq ai) aj ∧
 (-9223372036854775808 : Int) ≤ (a0 + 1) ∧ (a0 + 1) < 9223372036854775808 ∧
 ∃ ba, ba < b9 ∧ I1 ba [.slice ak aq ai, .int .i64 (a0 + 1)] aj) ∧
 ((journal_Parts.F (a4 : Int)) ≤ a0 →
 R (.tuple #[.slice a3 a5 a1, .int .i64 0]) ad))))

theorem journal_Frame.up (ab : Int) (a0 : Int) (aa : Int) (b3 : Option Addr) (ac : Nat) (b2 : Nat) {R : Value → World → Prop} {w : World} (h : journal_Frame.N ab a0 aa b3 ac b2 R w) : journal_Frame.M ab a0 aa b3 ac b2 R w := by
  unfold journal_Frame.M
  unfold journal_Frame.N at h
  refine (journal_Parts.pure (ac : Int)).mono fun ee ww5 ⟨he, hxx⟩ => ⟨(journal_Parts.F (ac : Int)), he, ?_⟩
  have ad := (Ext.refl no w).trans hxx
  refine bif_of (fun c6 => ?_) (fun c6 => ?_)
  · have h := h.1 (beq_t c6)
    have h := h ww5 ad
    exact h
  · have h := h.2 (beq_f c6)
    refine bif_of (fun c7 => ?_) (fun c7 => ?_)
    · have h := h.1 (beq_t c7)
      have h := h ww5 ad
      exact h
    · have h := h.2 (beq_f c7)
      refine bif_of (fun c8 => ?_) (fun c8 => ?_)
      · have h := h.1 (beq_t c8)
        have h := h ww5 ad
        exact h
      · have h := h.2 (beq_f c8)
        have h := h ww5 ad
        obtain ⟨I1, b9, h0, h⟩ := h
        refine ⟨I1, b9, h0, fun b4 ao a6 a9 a3 ba hI => ?_⟩
        have h := h b4 ao a6 a9 a3 ba hI
        refine bif_of (fun aj => ?_) (fun aj => ?_)
        · have h := h.1 (of_decide_eq_true aj)
          obtain ⟨a5, a7, h⟩ := h
          try rw [w64 a5 a7]
          obtain ⟨a5, a7, h⟩ := h
          try rw [w64 a5 a7]
          obtain ⟨a5, a7, h⟩ := h
          try rw [w64 a5 a7]
          obtain ⟨b8, az, bf, bl, h⟩ := h
          refine ⟨b8, az, bf, bl, ?_⟩
          obtain ⟨au, ay, an, a1, hr, h⟩ := h
          refine ⟨au, ay, an, a1, hr, ?_⟩
          refine thenW_in fun ax ar => ?_
          have h := h ax a1.heap.size ((Ext.refl no a1).x_alloc ar) (Blk.of_new ar) ((Ext.refl no a1)).size (size_lt_alloc ar)
          obtain ⟨hcs, h⟩ := h
          refine ⟨hcs, thenW_in fun a2 b7 => ?_⟩
          replace h := thenW_out h b7
          refine thenW_in fun am b0 => ?_
          have h := h am a2.heap.size ((Ext.refl no a2).x_alloc b0) (Blk.of_new b0) ((Ext.refl no a2)).size (size_lt_alloc b0)
          refine h.mono fun bh b5 h => ?_
          obtain ⟨he, h⟩ := h
          refine ⟨he, ?_⟩
          refine h.mono fun be bi h => ?_
          obtain ⟨he, h⟩ := h
          refine ⟨he, ?_⟩
          refine h.mono fun bk b6 h => ?_
          obtain ⟨he, h⟩ := h
          refine ⟨he, ?_⟩
          refine h.mono fun bg a8 h => ?_
          obtain ⟨he, h⟩ := h
          refine ⟨he, ?_⟩
          refine thenW_in fun ae aq => ?_
          have h := h ae a8.heap.size ((Ext.refl no a8).x_alloc aq) (Blk.of_new aq) ((Ext.refl no a8)).size (size_lt_alloc aq)
          refine h.mono fun bd bj h => ?_
          obtain ⟨he, h⟩ := h
          refine ⟨he, ?_⟩
          refine h.mono fun bb a4 h => ?_
          obtain ⟨he, h⟩ := h
          refine ⟨he, ?_⟩
          obtain ⟨aw, ak, ap, ai, h⟩ := h
          refine ⟨aw, ak, ap, ai, ?_⟩
          obtain ⟨az, h⟩ := h
          refine ⟨by decide, az, ?_⟩
          try rw [cut_zero]
          refine thenW_in fun al av => ?_
          have h := h al a4.heap.size ((Ext.refl no a4).x_alloc av) (Blk.of_new av) ((Ext.refl no a4)).size (size_lt_alloc av)
          obtain ⟨ah, b1, af, ag, hr, h⟩ := h
          refine ⟨ah, b1, af, ag, hr, ?_⟩
          obtain ⟨a5, a7, h⟩ := h
          try rw [w64 a5 a7]
          obtain ⟨bc, hk, h⟩ := h
          exact ⟨bc, hk, h⟩
        · have h := h.2 (Int.not_lt.1 (of_decide_eq_false aj))
          exact h

theorem journal_Frame.go (a1 : Int) (a0 : Int) (a2 : Int) (a5 : Option Addr) (a3 : Nat) (a4 : Nat) {R : Value → World → Prop} {w : World} (h : journal_Frame.N a1 a0 a2 a5 a3 a4 R w) : Calls Try.prog 9 #[.int .u32 a1, .int .u32 a0, .int .u32 a2, .slice a5 a3 a4] w fun e w' => ∃ v, e = .returned v ∧ R v w' := journal_Frame.ok a1 a0 a2 a5 a3 a4 (journal_Frame.up a1 a0 a2 a5 a3 a4 h)
/-- cachetteref10.four -/
def cachetteref10_four.M (n1 : Int) (R : Value → World → Prop) (w : World) : Prop :=
 16777216 ≠ (0 : Int) ∧ 65536 ≠ (0 : Int) ∧ 256 ≠ (0 : Int) ∧ 256 ≠ (0 : Int) ∧ 256 ≠ (0 : Int) ∧ 256 ≠ (0 : Int) ∧ thenW (w.alloc (.cells #[.int .u8 (IntKind.u8.wrap (IntKind.u32.wrap (Int.tdiv n1 16777216))), .int .u8 (IntKind.u8.wrap (Int.tmod (IntKind.u32.wrap (Int.tdiv n1 65536)) 256)), .int .u8 (IntKind.u8.wrap (Int.tmod (IntKind.u32.wrap (Int.tdiv n1 256)) 256)), .int .u8 (IntKind.u8.wrap (Int.tmod n1 256))] 5)) fun a0 =>
 R (.slice (some (blk w.heap.size)) 4 4) a0

theorem cachetteref10_four.eq (n1 : Int) (R : Value → World → Prop) (w : World) : mfunc Try.prog [] 36 [.int .u32 n1] R w = cachetteref10_four.M n1 R w := by kernel_rfl
theorem cachetteref10_four.ok (n1 : Int) {R : Value → World → Prop} {w : World} (h : cachetteref10_four.M n1 R w) : Calls Try.prog 36 #[.int .u32 n1] w fun e w' => ∃ v, e = .returned v ∧ R v w' :=
  mfunc_ok follows (H := []) (args := [.int .u32 n1]) (by rw [cachetteref10_four.eq]; exact h)

def cachetteref10_four.N (n1 : Int) (R : Value → World → Prop) (w : World) : Prop :=
 ∀ (a0 : World) (q3 : Nat), Ext no w a0 → Blk a0 q3 5 [.int .u8 (IntKind.u8.wrap (IntKind.u32.wrap (Int.tdiv n1 16777216))), .int .u8 (IntKind.u8.wrap (Int.tmod (IntKind.u32.wrap (Int.tdiv n1 65536)) 256)), .int .u8 (IntKind.u8.wrap (Int.tmod (IntKind.u32.wrap (Int.tdiv n1 256)) 256)), .int .u8 (IntKind.u8.wrap (Int.tmod n1 256))] → w.heap.size ≤ q3 → q3 < a0.heap.size →
 R (.slice (some (blk q3)) 4 4) a0

theorem cachetteref10_four.up (n1 : Int) {R : Value → World → Prop} {w : World} (h : cachetteref10_four.N n1 R w) : cachetteref10_four.M n1 R w := by
  unfold cachetteref10_four.M
  unfold cachetteref10_four.N at h
  refine ⟨by decide, ?_⟩
  refine ⟨by decide, ?_⟩
  refine ⟨by decide, ?_⟩
  refine ⟨by decide, ?_⟩
  refine ⟨by decide, ?_⟩
  refine ⟨by decide, ?_⟩
  refine thenW_in fun a0 e2 => ?_
  have h := h a0 w.heap.size ((Ext.refl no w).x_alloc e2) (Blk.of_new e2) ((Ext.refl no w)).size (size_lt_alloc e2)
  exact h

theorem cachetteref10_four.go (n1 : Int) {R : Value → World → Prop} {w : World} (h : cachetteref10_four.N n1 R w) : Calls Try.prog 36 #[.int .u32 n1] w fun e w' => ∃ v, e = .returned v ∧ R v w' := cachetteref10_four.ok n1 (cachetteref10_four.up n1 h)
/-- cachetteref10.number -/
def cachetteref10_number.M (a1 : Option Addr) (a2 : Nat) (a6 : Nat) (R : Value → World → Prop) (w : World) : Prop :=
 thenW (w.drew) fun a0 =>
 a1.elim False fun a3 =>
 0 ≤ (0 : Int) ∧ (0 : Int) < (a2 : Int) ∧
 ∃ (x4 : Int), a0.cell? (a3.add (Int.toNat 0 * 1)) = some (.int .u8 x4) ∧
 a1.elim False fun a5 =>
 0 ≤ (1 : Int) ∧ (1 : Int) < (a2 : Int) ∧
 ∃ (x6 : Int), a0.cell? (a5.add (Int.toNat 1 * 1)) = some (.int .u8 x6) ∧
 a1.elim False fun a7 =>
 0 ≤ (2 : Int) ∧ (2 : Int) < (a2 : Int) ∧
 ∃ (x8 : Int), a0.cell? (a7.add (Int.toNat 2 * 1)) = some (.int .u8 x8) ∧
 a1.elim False fun a9 =>
 0 ≤ (3 : Int) ∧ (3 : Int) < (a2 : Int) ∧
 ∃ (a4 : Int), a0.cell? (a9.add (Int.toNat 3 * 1)) = some (.int .u8 a4) ∧
 R (.int .u32 (IntKind.u32.wrap ((IntKind.u32.wrap ((IntKind.u32.wrap ((IntKind.u32.wrap ((IntKind.u32.wrap x4) * 16777216)) + (IntKind.u32.wrap ((IntKind.u32.wrap x6) * 65536)))) + (IntKind.u32.wrap ((IntKind.u32.wrap x8) * 256)))) + (IntKind.u32.wrap a4)))) a0

theorem cachetteref10_number.eq (b1a : Option Addr) (b1n : Nat) (b1c : Nat) (R : Value → World → Prop) (w : World) : mfunc Try.prog [] 41 [.slice b1a b1n b1c] R w = cachetteref10_number.M b1a b1n b1c R w := by kernel_rfl
theorem cachetteref10_number.ok (a1 : Option Addr) (a2 : Nat) (a0 : Nat) {R : Value → World → Prop} {w : World} (h : cachetteref10_number.M a1 a2 a0 R w) : Calls Try.prog 41 #[.slice a1 a2 a0] w fun e w' => ∃ v, e = .returned v ∧ R v w' :=
  mfunc_ok follows (H := []) (args := [.slice a1 a2 a0]) (by rw [cachetteref10_number.eq]; exact h)

def cachetteref10_number.N (a4 : Option Addr) (a0 : Nat) (a5 : Nat) (R : Value → World → Prop) (w : World) : Prop :=
 ∃ a3 : Addr, a4 = some a3 ∧
 (0 : Int) < (a0 : Int) ∧
 ∃ (x5 : Int), w.cell? (a3.add (Int.toNat 0 * 1)) = some (.int .u8 x5) ∧
 (1 : Int) < (a0 : Int) ∧
 ∃ (x7 : Int), w.cell? (a3.add (Int.toNat 1 * 1)) = some (.int .u8 x7) ∧
 (2 : Int) < (a0 : Int) ∧
 ∃ (x9 : Int), w.cell? (a3.add (Int.toNat 2 * 1)) = some (.int .u8 x9) ∧
 (3 : Int) < (a0 : Int) ∧
 ∃ (a2 : Int), w.cell? (a3.add (Int.toNat 3 * 1)) = some (.int .u8 a2) ∧
 ∀ (a1 : World), Ext no w a1 →
 R (.int .u32 (IntKind.u32.wrap ((IntKind.u32.wrap ((IntKind.u32.wrap ((IntKind.u32.wrap ((IntKind.u32.wrap x5) * 16777216)) + (IntKind.u32.wrap ((IntKind.u32.wrap x7) * 65536)))) + (IntKind.u32.wrap ((IntKind.u32.wrap x9) * 256)))) + (IntKind.u32.wrap a2)))) a1

theorem cachetteref10_number.up (a5 : Option Addr) (a7 : Nat) (a6 : Nat) {R : Value → World → Prop} {w : World} (h : cachetteref10_number.N a5 a7 a6 R w) : cachetteref10_number.M a5 a7 a6 R w := by
  unfold cachetteref10_number.M
  unfold cachetteref10_number.N at h
  refine thenW_in fun ac e2 => ?_
  have a1 := (Ext.refl no w).x_drew e2
  obtain ⟨a3, a2, h⟩ := h
  refine elim_some a2 ?_
  obtain ⟨a0, h⟩ := h
  refine ⟨by decide, a0, ?_⟩
  obtain ⟨x5, a9, h⟩ := h
  refine ⟨x5, (a1).cell a9 id, ?_⟩
  refine elim_some a2 ?_
  obtain ⟨a0, h⟩ := h
  refine ⟨by decide, a0, ?_⟩
  obtain ⟨x7, aa, h⟩ := h
  refine ⟨x7, (a1).cell aa id, ?_⟩
  refine elim_some a2 ?_
  obtain ⟨a0, h⟩ := h
  refine ⟨by decide, a0, ?_⟩
  obtain ⟨x9, ab, h⟩ := h
  refine ⟨x9, (a1).cell ab id, ?_⟩
  refine elim_some a2 ?_
  obtain ⟨a0, h⟩ := h
  refine ⟨by decide, a0, ?_⟩
  obtain ⟨a8, a4, h⟩ := h
  refine ⟨a8, (a1).cell a4 id, ?_⟩
  have h := h ac a1
  exact h

theorem cachetteref10_number.go (a1 : Option Addr) (a2 : Nat) (a0 : Nat) {R : Value → World → Prop} {w : World} (h : cachetteref10_number.N a1 a2 a0 R w) : Calls Try.prog 41 #[.slice a1 a2 a0] w fun e w' => ∃ v, e = .returned v ∧ R v w' := cachetteref10_number.ok a1 a2 a0 (cachetteref10_number.up a1 a2 a0 h)
theorem cachetteref10_number.run (a1 : Option Addr) (a2 : Nat) (a0 : Nat) {V : Value} {Q : World → Prop} {w : World} (h : cachetteref10_number.N a1 a2 a0 (fun v w' => v = V ∧ Q w') w) : Calls Try.prog 41 #[.slice a1 a2 a0] w (Ret V Q) := (cachetteref10_number.go a1 a2 a0 h).mono fun e w' ⟨v, he, hv, hq⟩ => ⟨by rw [he, hv], hq⟩

/-- cachetteref10.Frame -/
def cachetteref10_Frame.M (bc : Int) (ae : Int) (bj : Int) (bv : Option Addr) (ad : Nat) (bl : Nat) (R : Value → World → Prop) (w : World) : Prop :=
 bif decide ((ad : Int) > 4000) then (
 R (.tuple #[.slice none 0 0, .int .i64 3]) w) else (
 bif bc == 0 then (
 R (.tuple #[.slice none 0 0, .int .i64 1]) w) else (
 bif ae == 0 then (
 R (.tuple #[.slice none 0 0, .int .i64 1]) w) else (
 Calls Try.prog 13 #[.int .i64 (ad : Int)] w fun bx bz => ∃ (a0 : Int), bx = .returned (.int .i64 a0) ∧
 ∃ (I0 : Nat → List Value → World → Prop) (c0 : Nat), I0 c0 [.slice none 0 0, .int .i64 0] bz ∧ ∀ (br : Nat) (ah : World) (a2 : Option Addr) (a3 : Nat) (a1 : Nat) (i9 : Int), I0 br [.slice a2 a3 a1, .int .i64 i9] ah →
 bif decide (i9 < a0) then (
 (0 : Int) ≤ ((if ((ad : Int) : Int) < (IntKind.i64.wrap ((IntKind.i64.wrap ((48 : Int) * i9)) + 48)) then (ad : Int) else (IntKind.i64.wrap ((IntKind.i64.wrap ((48 : Int) * i9)) + 48))) : Int) ∧ ((if ((ad : Int) : Int) < (IntKind.i64.wrap ((IntKind.i64.wrap ((48 : Int) * i9)) + 48)) then (ad : Int) else (IntKind.i64.wrap ((IntKind.i64.wrap ((48 : Int) * i9)) + 48))) : Int) ≤ (bl : Int) ∧ (0 : Int) ≤ ((IntKind.i64.wrap ((48 : Int) * i9)) : Int) ∧ ((IntKind.i64.wrap ((48 : Int) * i9)) : Int) ≤ ((if ((ad : Int) : Int) < (IntKind.i64.wrap ((IntKind.i64.wrap ((48 : Int) * i9)) + 48)) then (ad : Int) else (IntKind.i64.wrap ((IntKind.i64.wrap ((48 : Int) * i9)) + 48))) : Int) ∧
 thenW (ah.alloc (.cells #[.int .u8 197] 5)) fun bm =>
 Calls Try.prog 36 #[.int .u32 bc] bm fun bg bn => ∃ (a9 : Option Addr) (ab : Nat) (a8 : Nat), bg = .returned (.slice a9 ab a8) ∧
 ∃ (bd : Option Addr) (b6 : Nat) (b2 : Nat) (bb : World), (Builtin.append_ #[23, 23] 23 #[.slice (some (blk ah.heap.size)) 1 1, .slice a9 ab a8]).run Try.prog bn = .ok (.slice bd b6 b2) bb ∧
 Calls Try.prog 36 #[.int .u32 ae] bb fun bo bh => ∃ (aa : Option Addr) (ac : Nat) (a6 : Nat), bo = .returned (.slice aa ac a6) ∧
 ∃ (av : Option Addr) (b0 : Nat) (al : Nat) (am : World), (Builtin.append_ #[23, 23] 23 #[.slice bd b6 b2, .slice aa ac a6]).run Try.prog bh = .ok (.slice av b0 al) am ∧
 Calls Try.prog 36 #[.int .u32 bj] am fun bq bk => ∃ (a4 : Option Addr) (a5 : Nat) (a7 : Nat), bq = .returned (.slice a4 a5 a7) ∧
 ∃ (ax : Option Addr) (b5 : Nat) (b3 : Nat) (ai : World), (Builtin.append_ #[23, 23] 23 #[.slice av b0 al, .slice a4 a5 a7]).run Try.prog bk = .ok (.slice ax b5 b3) ai ∧
 thenW (ai.alloc (.cells #[.int .u8 (IntKind.u8.wrap i9), .int .u8 (IntKind.u8.wrap a0), .int .u8 (IntKind.u8.wrap (((Int.toNat (if ((ad : Int) : Int) < (IntKind.i64.wrap ((IntKind.i64.wrap ((48 : Int) * i9)) + 48)) then (ad : Int) else (IntKind.i64.wrap ((IntKind.i64.wrap ((48 : Int) * i9)) + 48)))) - (Int.toNat (IntKind.i64.wrap ((48 : Int) * i9))) : Nat) : Int))] 5)) fun bp =>
 ∃ (b4 : Option Addr) (b1 : Nat) (ao : Nat) (ay : World), (Builtin.append_ #[23, 23] 23 #[.slice ax b5 b3, .slice (some (blk ai.heap.size)) 3 3]).run Try.prog bp = .ok (.slice b4 b1 ao) ay ∧
 ∃ (ar : Option Addr) (aq : Nat) (au : Nat) (b7 : World), (Builtin.append_ #[23, 23] 23 #[.slice b4 b1 ao, .slice (if bl = Int.toNat (IntKind.i64.wrap ((48 : Int) * i9)) then bv else Option.map (fun z : Addr => z.add ((Int.toNat (IntKind.i64.wrap ((48 : Int) * i9))) * 1)) bv) ((Int.toNat (if ((ad : Int) : Int) < (IntKind.i64.wrap ((IntKind.i64.wrap ((48 : Int) * i9)) + 48)) then (ad : Int) else (IntKind.i64.wrap ((IntKind.i64.wrap ((48 : Int) * i9)) + 48)))) - (Int.toNat (IntKind.i64.wrap ((48 : Int) * i9)))) (bl - (Int.toNat (IntKind.i64.wrap ((48 : Int) * i9))))]).run Try.prog ay = .ok (.slice ar aq au) b7 ∧
 ∃ (I2 : Nat → List Value → World → Prop) (bw : Nat), I2 bw [.slice ar aq au] b7 ∧ ∀ (bu : Nat) (af : World) (ak : Option Addr) (ag : Nat) (aj : Nat), I2 bu [.slice ak ag aj] af →
 bif decide ((ag : Int) < 64) then (
 thenW (af.alloc (.cells #[.int .u8 0] 5)) fun bi =>
 ∃ (an : Option Addr) (aw : Nat) (b8 : Nat) (ap : World), (Builtin.append_ #[23, 23] 23 #[.slice ak ag aj, .slice (some (blk af.heap.size)) 1 1]).run Try.prog bi = .ok (.slice an aw b8) ap ∧
 ∃ bs, bs < bu ∧ I2 bs [.slice an aw b8] ap) else (
 thenW (af.alloc (.cells #[.slice ak ag aj] 23)) fun bf =>
 ∃ (be : Option Addr) (az : Nat) (b9 : Nat) (ba : World), (Builtin.append_ #[25, 25] 25 #[.slice a2 a3 a1, .slice (some (blk af.heap.size)) 1 1]).run Try.prog bf = .ok (.slice be az b9) ba ∧
 ∃ bt, bt < br ∧ I0 bt [.slice be az b9, .int .i64 (IntKind.i64.wrap (i9 + 1))] ba)) else (
 R (.tuple #[.slice a2 a3 a1, .int .i64 0]) ah))))

theorem cachetteref10_Frame.eq (gen1 : Int) (round2 : Int) (seq3 : Int) (b4a : Option Addr) (b4n : Nat) (b4c : Nat) (R : Value → World → Prop) (w : World) : mfunc Try.prog [(0, [0, 1, 2, 3, 11], [(10, (.one .slice)), (12, (.one (.int .i64)))]), (2, [0, 1, 2, 3, 10, 11, 12], [(14, (.one .slice))])] 10 [.int .u32 gen1, .int .u32 round2, .int .u32 seq3, .slice b4a b4n b4c] R w = cachetteref10_Frame.M gen1 round2 seq3 b4a b4n b4c R w := by kernel_rfl
theorem cachetteref10_Frame.ok (a1 : Int) (a0 : Int) (a2 : Int) (a5 : Option Addr) (a3 : Nat) (a4 : Nat) {R : Value → World → Prop} {w : World} (h : cachetteref10_Frame.M a1 a0 a2 a5 a3 a4 R w) : Calls Try.prog 10 #[.int .u32 a1, .int .u32 a0, .int .u32 a2, .slice a5 a3 a4] w fun e w' => ∃ v, e = .returned v ∧ R v w' :=
  mfunc_ok follows (H := [(0, [0, 1, 2, 3, 11], [(10, (.one .slice)), (12, (.one (.int .i64)))]), (2, [0, 1, 2, 3, 10, 11, 12], [(14, (.one .slice))])]) (args := [.int .u32 a1, .int .u32 a0, .int .u32 a2, .slice a5 a3 a4]) (by rw [cachetteref10_Frame.eq]; exact h)

def cachetteref10_Frame.N (ap : Int) (a2 : Int) (bp : Int) (c3 : Option Addr) (a4 : Nat) (bq : Nat) (R : Value → World → Prop) (w : World) : Prop :=
 ((a4 : Int) > 4000 →
 R (.tuple #[.slice none 0 0, .int .i64 3]) w) ∧
 ((a4 : Int) ≤ 4000 →
 (ap = 0 →
 R (.tuple #[.slice none 0 0, .int .i64 1]) w) ∧
 (ap ≠ 0 →
 (a2 = 0 →
 R (.tuple #[.slice none 0 0, .int .i64 1]) w) ∧
 (a2 ≠ 0 →
 ∀ (c0 : World), Ext no w c0 →
 ∃ (I0 : Nat → List Value → World → Prop) (c2 : Nat), I0 c2 [.slice none 0 0, .int .i64 0] c0 ∧ ∀ (bv : Nat) (ak : World) (a3 : Option Addr) (a5 : Nat) (a1 : Nat) (a0 : Int), I0 bv [.slice a3 a5 a1, .int .i64 a0] ak →
 (a0 < (cachetteref10_Parts.F (a4 : Int)) →
 (-9223372036854775808 : Int) ≤ ((48 : Int) * a0) ∧ ((48 : Int) * a0) < 9223372036854775808 ∧
 (-9223372036854775808 : Int) ≤ ((48 : Int) * a0) ∧ ((48 : Int) * a0) < 9223372036854775808 ∧
 (-9223372036854775808 : Int) ≤ (((48 : Int) * a0) + 48) ∧ (((48 : Int) * a0) + 48) < 9223372036854775808 ∧
 (0 : Int) ≤ ((if ((a4 : Int) : Int) < (((48 : Int) * a0) + 48) then (a4 : Int) else (((48 : Int) * a0) + 48)) : Int) ∧ ((if ((a4 : Int) : Int) < (((48 : Int) * a0) + 48) then (a4 : Int) else (((48 : Int) * a0) + 48)) : Int) ≤ (bq : Int) ∧ (0 : Int) ≤ (((48 : Int) * a0) : Int) ∧ (((48 : Int) * a0) : Int) ≤ ((if ((a4 : Int) : Int) < (((48 : Int) * a0) + 48) then (a4 : Int) else (((48 : Int) * a0) + 48)) : Int) ∧ 
 ∀ (ah : World) (bj : Nat), Ext no ak ah → Blk ah bj 5 [.int .u8 197] → ak.heap.size ≤ bj → bj < ah.heap.size →
 Calls Try.prog 36 #[.int .u32 ap] ah fun bt bn => ∃ (a6 : Option Addr) (ad : Nat) (ab : Nat), bt = .returned (.slice a6 ad ab) ∧
 ∃ (az : Option Addr) (ay : Nat) (bb : Nat) (av : World), (Builtin.append_ #[23, 23] 23 #[.slice (some (blk bj)) 1 1, .slice a6 ad ab]).run Try.prog bn = .ok (.slice az ay bb) av ∧
 Calls Try.prog 36 #[.int .u32 a2] av fun bo br => ∃ (ac : Option Addr) (ae : Nat) (a8 : Nat), bo = .returned (.slice ac ae a8) ∧
 ∃ (bd : Option Addr) (b5 : Nat) (bi : Nat) (b3 : World), (Builtin.append_ #[23, 23] 23 #[.slice az ay bb, .slice ac ae a8]).run Try.prog br = .ok (.slice bd b5 bi) b3 ∧
 Calls Try.prog 36 #[.int .u32 bp] b3 fun bs bu => ∃ (aa : Option Addr) (a9 : Nat) (a7 : Nat), bs = .returned (.slice aa a9 a7) ∧
 ∃ (bc : Option Addr) (b7 : Nat) (ax : Nat) (an : World), (Builtin.append_ #[23, 23] 23 #[.slice bd b5 bi, .slice aa a9 a7]).run Try.prog bu = .ok (.slice bc b7 ax) an ∧
 ∀ (ai : World) (bm : Nat), Ext no an ai → Blk ai bm 5 [.int .u8 (IntKind.u8.wrap a0), .int .u8 (IntKind.u8.wrap (cachetteref10_Parts.F (a4 : Int))), .int .u8 (IntKind.u8.wrap (((Int.toNat (if ((a4 : Int) : Int) < (((48 : Int) * a0) + 48) then (a4 : Int) else (((48 : Int) * a0) + 48))) - (Int.toNat ((48 : Int) * a0)) : Nat) : Int))] → an.heap.size ≤ bm → bm < ai.heap.size →
 ∃ (au : Option Addr) (b9 : Nat) (bh : Nat) (b4 : World), (Builtin.append_ #[23, 23] 23 #[.slice bc b7 ax, .slice (some (blk bm)) 3 3]).run Try.prog ai = .ok (.slice au b9 bh) b4 ∧
 ∃ (aq : Option Addr) (b0 : Nat) (b2 : Nat) (be : World), (Builtin.append_ #[23, 23] 23 #[.slice au b9 bh, .slice (cutA c3 bq (Int.toNat ((48 : Int) * a0)) 1) ((Int.toNat (if ((a4 : Int) : Int) < (((48 : Int) * a0) + 48) then (a4 : Int) else (((48 : Int) * a0) + 48))) - (Int.toNat ((48 : Int) * a0))) (bq - (Int.toNat ((48 : Int) * a0)))]).run Try.prog b4 = .ok (.slice aq b0 b2) be ∧
 ∃ (I2 : Nat → List Value → World → Prop) (c1 : Nat), I2 c1 [.slice aq b0 b2] be ∧ ∀ (bw : Nat) (ag : World) (am : Option Addr) (af : Nat) (ao : Nat), I2 bw [.slice am af ao] ag →
 ((af : Int) < 64 →
 ∀ (al : World) (bl : Nat), Ext no ag al → Blk al bl 5 [.int .u8 0] → ag.heap.size ≤ bl → bl < al.heap.size →
 ∃ (ar : Option Addr) (b6 : Nat) (ba : Nat) (bg : World), (Builtin.append_ #[23, 23] 23 #[.slice am af ao, .slice (some (blk bl)) 1 1]).run Try.prog al = .ok (.slice ar b6 ba) bg ∧
 ∃ bz, bz < bw ∧ I2 bz [.slice ar b6 ba] bg) ∧
 ((64 : Int) ≤ (af : Int) →
 ∀ (aj : World) (bk : Nat), Ext no ag aj → Blk aj bk 23 [.slice am af ao] → ag.heap.size ≤ bk → bk < aj.heap.size →
 ∃ (b1 : Option Addr) (bf : Nat) (b8 : Nat) (aw : World), (Builtin.append_ #[25, 25] 25 #[.slice a3 a5 a1, .slice (some (blk bk)) 1 1]).run Try.prog aj = .ok (.slice b1 bf b8) aw ∧
 (-9223372036854775808 : Int) ≤ (a0 + 1) ∧ (a0 + 1) < 9223372036854775808 ∧
 ∃ bx, bx < bv ∧ I0 bx [.slice b1 bf b8, .int .i64 (a0 + 1)] aw)) ∧
 ((cachetteref10_Parts.F (a4 : Int)) ≤ a0 →
 R (.tuple #[.slice a3 a5 a1, .int .i64 0]) ak))))

theorem cachetteref10_Frame.up (ai : Int) (a1 : Int) (aj : Int) (br : Option Addr) (ak : Nat) (bs : Nat) {R : Value → World → Prop} {w : World} (h : cachetteref10_Frame.N ai a1 aj br ak bs R w) : cachetteref10_Frame.M ai a1 aj br ak bs R w := by
  unfold cachetteref10_Frame.M
  unfold cachetteref10_Frame.N at h
  refine bif_of (fun c5 => ?_) (fun c5 => ?_)
  · have h := h.1 (of_decide_eq_true c5)
    exact h
  · have h := h.2 (Int.not_lt.1 (of_decide_eq_false c5))
    refine bif_of (fun c6 => ?_) (fun c6 => ?_)
    · have h := h.1 (beq_t c6)
      exact h
    · have h := h.2 (beq_f c6)
      refine bif_of (fun c7 => ?_) (fun c7 => ?_)
      · have h := h.1 (beq_t c7)
        exact h
      · have h := h.2 (beq_f c7)
        refine (cachetteref10_Parts.pure (ak : Int)).mono fun ee ww8 ⟨he, hxx⟩ => ⟨(cachetteref10_Parts.F (ak : Int)), he, ?_⟩
        have c2 := (Ext.refl no w).trans hxx
        have h := h ww8 c2
        obtain ⟨I0, c8, h0, h⟩ := h
        refine ⟨I0, c8, h0, fun bt ac ah ae ad bz hI => ?_⟩
        have h := h bt ac ah ae ad bz hI
        refine bif_of (fun ao => ?_) (fun ao => ?_)
        · have h := h.1 (of_decide_eq_true ao)
          obtain ⟨af, ag, h⟩ := h
          try rw [w64 af ag]
          obtain ⟨af, ag, h⟩ := h
          try rw [w64 af ag]
          obtain ⟨af, ag, h⟩ := h
          try rw [w64 af ag]
          obtain ⟨c4, c1, c9, cd, h⟩ := h
          refine ⟨c4, c1, c9, cd, ?_⟩
          refine thenW_in fun b9 bn => ?_
          have h := h b9 ac.heap.size ((Ext.refl no ac).x_alloc bn) (Blk.of_new bn) ((Ext.refl no ac)).size (size_lt_alloc bn)
          refine h.mono fun cb c3 h => ?_
          obtain ⟨a3, a5, a8, he, h⟩ := h
          refine ⟨a3, a5, a8, he, ?_⟩
          obtain ⟨b8, an, b1, bj, hr, h⟩ := h
          refine ⟨b8, an, b1, bj, hr, ?_⟩
          refine h.mono fun bw bx h => ?_
          obtain ⟨a2, a9, a6, he, h⟩ := h
          refine ⟨a2, a9, a6, he, ?_⟩
          obtain ⟨bg, aq, b4, bc, hr, h⟩ := h
          refine ⟨bg, aq, b4, bc, hr, ?_⟩
          refine h.mono fun ca c0 h => ?_
          obtain ⟨a7, ab, aa, he, h⟩ := h
          refine ⟨a7, ab, aa, he, ?_⟩
          obtain ⟨bo, au, b7, a4, hr, h⟩ := h
          refine ⟨bo, au, b7, a4, hr, ?_⟩
          refine thenW_in fun bl az => ?_
          have h := h bl a4.heap.size ((Ext.refl no a4).x_alloc az) (Blk.of_new az) ((Ext.refl no a4)).size (size_lt_alloc az)
          obtain ⟨am, be, aw, bm, hr, h⟩ := h
          refine ⟨am, be, aw, bm, hr, ?_⟩
          obtain ⟨b6, ay, bb, b2, hr, h⟩ := h
          refine ⟨b6, ay, bb, b2, hr, ?_⟩
          obtain ⟨I2, bu, h0, h⟩ := h
          refine ⟨I2, bu, h0, fun ce a0 ba al bi hI => ?_⟩
          have h := h ce a0 ba al bi hI
          refine bif_of (fun b0 => ?_) (fun b0 => ?_)
          · have h := h.1 (of_decide_eq_true b0)
            refine thenW_in fun av bq => ?_
            have h := h av a0.heap.size ((Ext.refl no a0).x_alloc bq) (Blk.of_new bq) ((Ext.refl no a0)).size (size_lt_alloc bq)
            obtain ⟨ax, bd, bf, bp, hr, h⟩ := h
            refine ⟨ax, bd, bf, bp, hr, ?_⟩
            obtain ⟨cc, hk, h⟩ := h
            exact ⟨cc, hk, h⟩
          · have h := h.2 (Int.not_lt.1 (of_decide_eq_false b0))
            refine thenW_in fun ap b3 => ?_
            have h := h ap a0.heap.size ((Ext.refl no a0).x_alloc b3) (Blk.of_new b3) ((Ext.refl no a0)).size (size_lt_alloc b3)
            obtain ⟨bk, bh, ar, b5, hr, h⟩ := h
            refine ⟨bk, bh, ar, b5, hr, ?_⟩
            obtain ⟨af, ag, h⟩ := h
            try rw [w64 af ag]
            obtain ⟨bv, hk, h⟩ := h
            exact ⟨bv, hk, h⟩
        · have h := h.2 (Int.not_lt.1 (of_decide_eq_false ao))
          exact h

theorem cachetteref10_Frame.go (a1 : Int) (a0 : Int) (a2 : Int) (a5 : Option Addr) (a3 : Nat) (a4 : Nat) {R : Value → World → Prop} {w : World} (h : cachetteref10_Frame.N a1 a0 a2 a5 a3 a4 R w) : Calls Try.prog 10 #[.int .u32 a1, .int .u32 a0, .int .u32 a2, .slice a5 a3 a4] w fun e w' => ∃ v, e = .returned v ∧ R v w' := cachetteref10_Frame.ok a1 a0 a2 a5 a3 a4 (cachetteref10_Frame.up a1 a0 a2 a5 a3 a4 h)
/-- cachetteref10.Lists -/
def cachetteref10_Lists.M (ah : Option Addr) (a5 : Nat) (aj : Nat) (ag : Option Addr) (aa : Nat) (ai : Nat) (R : Value → World → Prop) (w : World) : Prop :=
 bif (a5 : Int) != (aa : Int) then (
 R (.bool false) w) else (
 ∃ (I0 : Nat → List Value → World → Prop) (m4 : Nat), I0 m4 [.int .i64 0] w ∧ ∀ (m5 : Nat) (a6 : World) (i3 : Int), I0 m5 [.int .i64 i3] a6 →
 bif decide (i3 < (a5 : Int)) then (
 thenW (a6.drew) fun a7 =>
 ah.elim False fun a8 =>
 0 ≤ (i3 : Int) ∧ (i3 : Int) < (a5 : Int) ∧
 ∃ (ad : Option Addr) (ae : Nat) (ab : Nat), a7.cell? (a8.add (Int.toNat i3 * 1)) = some (.slice ad ae ab) ∧
 ag.elim False fun af =>
 0 ≤ (i3 : Int) ∧ (i3 : Int) < (aa : Int) ∧
 ∃ (a3 : Option Addr) (a2 : Nat) (a4 : Nat), a7.cell? (af.add (Int.toNat i3 * 1)) = some (.slice a3 a2 a4) ∧
 Calls Try.prog 27 #[.slice ad ae ab, .slice a3 a2 a4] a7 fun a9 a1 => ∃ (a0 : Bool), a9 = .returned (.bool a0) ∧
 bif !a0 then (
 R (.bool false) a1) else (
 ∃ ac, ac < m5 ∧ I0 ac [.int .i64 (IntKind.i64.wrap (i3 + 1))] a1)) else (
 R (.bool true) a6))

theorem cachetteref10_Lists.eq (a1a : Option Addr) (a1n : Nat) (a1c : Nat) (b2a : Option Addr) (b2n : Nat) (b2c : Nat) (R : Value → World → Prop) (w : World) : mfunc Try.prog [(0, [0, 1], [(5, (.one (.int .i64)))])] 11 [.slice a1a a1n a1c, .slice b2a b2n b2c] R w = cachetteref10_Lists.M a1a a1n a1c b2a b2n b2c R w := by kernel_rfl
theorem cachetteref10_Lists.ok (a3 : Option Addr) (a2 : Nat) (a0 : Nat) (a5 : Option Addr) (a1 : Nat) (a4 : Nat) {R : Value → World → Prop} {w : World} (h : cachetteref10_Lists.M a3 a2 a0 a5 a1 a4 R w) : Calls Try.prog 11 #[.slice a3 a2 a0, .slice a5 a1 a4] w fun e w' => ∃ v, e = .returned v ∧ R v w' :=
  mfunc_ok follows (H := [(0, [0, 1], [(5, (.one (.int .i64)))])]) (args := [.slice a3 a2 a0, .slice a5 a1 a4]) (by rw [cachetteref10_Lists.eq]; exact h)

def cachetteref10_Lists.N (ah : Option Addr) (a2 : Nat) (aj : Nat) (ag : Option Addr) (aa : Nat) (ai : Nat) (R : Value → World → Prop) (w : World) : Prop :=
 ((a2 : Int) ≠ (aa : Int) →
 R (.bool false) w) ∧
 ((a2 : Int) = (aa : Int) →
 ∃ (I0 : Nat → List Value → World → Prop) (m5 : Nat), I0 m5 [.int .i64 0] w ∧ ∀ (m6 : Nat) (a6 : World) (i4 : Int), I0 m6 [.int .i64 i4] a6 →
 (i4 < (a2 : Int) →
 ∃ ad : Addr, ah = some ad ∧
 0 ≤ (i4 : Int) ∧ (i4 : Int) < (a2 : Int) ∧
 ∃ (a9 : Option Addr) (a8 : Nat) (a1 : Nat), a6.cell? (ad.add (Int.toNat i4 * 1)) = some (.slice a9 a8 a1) ∧
 ∃ ae : Addr, ag = some ae ∧
 0 ≤ (i4 : Int) ∧ (i4 : Int) < (aa : Int) ∧
 ∃ (a5 : Option Addr) (a4 : Nat) (a3 : Nat), a6.cell? (ae.add (Int.toNat i4 * 1)) = some (.slice a5 a4 a3) ∧
 ∀ (af : World), Ext no a6 af →
 Calls Try.prog 27 #[.slice a9 a8 a1, .slice a5 a4 a3] af fun ab a7 => ∃ (a0 : Bool), ab = .returned (.bool a0) ∧
 (a0 = false →
 R (.bool false) a7) ∧
 (a0 = true →
 (-9223372036854775808 : Int) ≤ (i4 + 1) ∧ (i4 + 1) < 9223372036854775808 ∧
 ∃ ac, ac < m6 ∧ I0 ac [.int .i64 (i4 + 1)] a7)) ∧
 ((a2 : Int) ≤ i4 →
 R (.bool true) a6))

theorem cachetteref10_Lists.up (ak : Option Addr) (ag : Nat) (aj : Nat) (ai : Option Addr) (af : Nat) (ah : Nat) {R : Value → World → Prop} {w : World} (h : cachetteref10_Lists.N ak ag aj ai af ah R w) : cachetteref10_Lists.M ak ag aj ai af ah R w := by
  unfold cachetteref10_Lists.M
  unfold cachetteref10_Lists.N at h
  refine bif_of (fun c3 => ?_) (fun c3 => ?_)
  · have h := h.1 (bne_t c3)
    exact h
  · have h := h.2 (bne_f c3)
    obtain ⟨I0, m5, h0, h⟩ := h
    refine ⟨I0, m5, h0, fun m6 al i4 hI => ?_⟩
    have h := h m6 al i4 hI
    refine bif_of (fun c8 => ?_) (fun c8 => ?_)
    · have h := h.1 (of_decide_eq_true c8)
      refine thenW_in fun ap e9 => ?_
      have a4 := (Ext.refl no al).x_drew e9
      obtain ⟨au, a9, h⟩ := h
      refine elim_some a9 ?_
      obtain ⟨ac, a7, h⟩ := h
      refine ⟨ac, a7, ?_⟩
      obtain ⟨ae, ad, a1, a5, h⟩ := h
      refine ⟨ae, ad, a1, (a4).cell a5 id, ?_⟩
      obtain ⟨av, ab, h⟩ := h
      refine elim_some ab ?_
      obtain ⟨ac, a7, h⟩ := h
      refine ⟨ac, a7, ?_⟩
      obtain ⟨aa, a8, a3, a6, h⟩ := h
      refine ⟨aa, a8, a3, (a4).cell a6 id, ?_⟩
      have h := h ap a4
      refine h.mono fun an ar h => ?_
      obtain ⟨a0, he, h⟩ := h
      refine ⟨a0, he, ?_⟩
      refine bif_of (fun a2 => ?_) (fun a2 => ?_)
      · have h := h.1 (not_t a2)
        exact h
      · have h := h.2 (not_f a2)
        obtain ⟨ao, aq, h⟩ := h
        try rw [w64 ao aq]
        obtain ⟨am, hk, h⟩ := h
        exact ⟨am, hk, h⟩
    · have h := h.2 (Int.not_lt.1 (of_decide_eq_false c8))
      exact h

theorem cachetteref10_Lists.go (a3 : Option Addr) (a2 : Nat) (a0 : Nat) (a5 : Option Addr) (a1 : Nat) (a4 : Nat) {R : Value → World → Prop} {w : World} (h : cachetteref10_Lists.N a3 a2 a0 a5 a1 a4 R w) : Calls Try.prog 11 #[.slice a3 a2 a0, .slice a5 a1 a4] w fun e w' => ∃ v, e = .returned v ∧ R v w' := cachetteref10_Lists.ok a3 a2 a0 a5 a1 a4 (cachetteref10_Lists.up a3 a2 a0 a5 a1 a4 h)
theorem cachetteref10_Lists.run (a3 : Option Addr) (a2 : Nat) (a0 : Nat) (a5 : Option Addr) (a1 : Nat) (a4 : Nat) {V : Value} {Q : World → Prop} {w : World} (h : cachetteref10_Lists.N a3 a2 a0 a5 a1 a4 (fun v w' => v = V ∧ Q w') w) : Calls Try.prog 11 #[.slice a3 a2 a0, .slice a5 a1 a4] w (Ret V Q) := (cachetteref10_Lists.go a3 a2 a0 a5 a1 a4 h).mono fun e w' ⟨v, he, hv, hq⟩ => ⟨by rw [he, hv], hq⟩

end Go.Proofs.Ytgcjipbahfpopaa

/- Journal: a record's sectors; the program's Frame. -/
set_option linter.unusedVariables false
set_option linter.unusedSimpArgs false
set_option maxRecDepth 20000
set_option maxHeartbeats 2000000
namespace Go.Proofs.Ytgcjipbahfpopaa
open Go Go.Mx Go.Proofs
open W (OwnB GivesW)
theorem inf23 : (Try.prog.info? 23).map (fun i => (i.zero, i.size, i.bytes)) = some (some (.slice none 0 0), 1, 24) := by kernel_rfl
theorem wrapU8 (k : Nat) : IntKind.u8.wrap (k : Int) = ((UInt8.ofNat k).toNat : Int) := by
  rw [IntKind.wrap_u8]
  simp
theorem wrapU8i {z : Int} (h : 0 ≤ z) : Value.int .u8 (IntKind.u8.wrap z) = u8V (UInt8.ofNat z.toNat) := by
  obtain ⟨k, rfl⟩ := Int.eq_ofNat_of_zero_le h
  unfold u8V
  rw [wrapU8]; rfl
def be4 (n : Nat) : List UInt8 := [UInt8.ofNat (n / 16777216), UInt8.ofNat (n / 65536), UInt8.ofNat (n / 256), UInt8.ofNat n]
/-- how many parts. -/
def partsN (n : Nat) : Nat := if n > 4000 then 0 else if n = 0 then 1 else (n + 47) / 48
def partsI (n : Int) : Int := if n < 0 then 0 else (partsN n.toNat : Int)
theorem parts_eq {n : Int} (h0 : 0 ≤ n) (h1 : n ≤ 4000) : partsI n = if n = 0 then 1 else (n + 47) / 48 := by
  unfold partsI partsN
  rw [if_neg (by omega), if_neg (by omega)]
  by_cases hz : n = 0
  · subst hz; rfl
  · rw [if_neg (by omega), if_neg hz]
    omega
theorem parts_out {n : Int} (h : n < 0 ∨ n > 4000) : partsI n = 0 := by
  unfold partsI partsN
  by_cases h0 : n < 0
  · rw [if_pos h0]
  · rw [if_neg h0, if_pos (by omega)]; rfl
theorem parts_F (n : Int) : journal_Parts.F n = partsI n := by
  unfold journal_Parts.F
  by_cases h0 : n < 0
  · rw [if_pos h0, parts_out (.inl h0)]
  rw [if_neg h0]
  by_cases h1 : n > 4000
  · rw [if_pos h1, parts_out (.inr h1)]
  rw [if_neg h1, parts_eq (by omega) (by omega), w64 (n := n + 48) (by omega) (by omega), w64 (n := n + 48 - 1) (by omega) (by omega), Int.tdiv_eq_ediv_of_nonneg (by omega), w64 (n := (n + 48 - 1) / 48) (by omega) (by omega)]
  by_cases hz : n = 0
  · subst hz; rfl
  · rw [if_neg hz, if_neg (by omega)]
    omega
theorem refParts_F (n : Int) : cachetteref10_Parts.F n = partsI n := by
  unfold cachetteref10_Parts.F
  by_cases h0 : n < 0
  · rw [if_pos h0, parts_out (.inl h0)]
  rw [if_neg h0]
  by_cases h1 : n > 4000
  · rw [if_pos h1, parts_out (.inr h1)]
  rw [if_neg h1, parts_eq (by omega) (by omega)]
  by_cases hz : n = 0
  · subst hz; rfl
  · rw [if_neg hz, if_neg hz, w64 (n := n + 47) (by omega) (by omega), Int.tdiv_eq_ediv_of_nonneg (by omega), w64 (n := (n + 47) / 48) (by omega) (by omega)]
theorem partsI_nat (n : Nat) : partsI (n : Int) = (partsN n : Int) := by
  unfold partsI
  rw [if_neg (by omega), Int.toNat_natCast]
theorem partsN_le (n : Nat) : partsN n ≤ 84 := by
  unfold partsN
  split
  · omega
  · split
    · omega
    · omega
/-- what a sector begins with. -/
def headL (gen round seq i n k : Nat) : List UInt8 := 197 :: (be4 gen ++ be4 round ++ be4 seq ++ [UInt8.ofNat i, UInt8.ofNat n, UInt8.ofNat k])
theorem headL_len (gen round seq i n k : Nat) : (headL gen round seq i n k).length = 16 := rfl
def secL (gen round seq i n : Nat) (x : List UInt8) : List UInt8 := headL gen round seq i n x.length ++ x ++ List.replicate (48 - x.length) 0
def partL (b : List UInt8) (i : Nat) : List UInt8 := (b.drop (48 * i)).take 48
theorem partL_le (b : List UInt8) (i : Nat) : (partL b i).length ≤ 48 := by unfold partL; rw [List.length_take]; omega
theorem secL_len (gen round seq i n : Nat) {x : List UInt8} (h : x.length ≤ 48) : (secL gen round seq i n x).length = 64 := by
  unfold secL
  rw [List.length_append, List.length_append, headL_len, List.length_replicate]; omega
def frameL (gen round seq : Nat) (b : List UInt8) : List (List UInt8) := (List.range (partsN b.length)).map fun i => secL gen round seq i (partsN b.length) (partL b i)
def frameK (gen round seq : Nat) (b : List UInt8) : List (List UInt8) × Int :=
  if b.length > 4000 then ([], 3) else if gen = 0 ∨ round = 0 then ([], 1) else (frameL gen round seq b, 0)
/-- a list of bytes' rows. -/
def BSok (w : World) (o : Own) (x : BS) : Prop := Row w o x.a (bytesV x.bs) ∧ x.bs.length ≤ x.c
/-- a sector on its way. -/
structure SB (w : World) (q g : Nat) (l : List UInt8) : Prop where
  p : Blk w q 67 [.slice (some (blk g)) l.length 64]
  b : Blk w g 5 (bytesV (l ++ List.replicate (64 - l.length) 0))
  ne : q ≠ g
  le : l.length ≤ 64
section
variable {w w' w1 : World} {o o' : Own} {q g n N : Nat} {K : Nat → Prop} {l x : List UInt8} {xa : Option Addr} {xc : Nat}
theorem BSok.step {x : BS} (h : BSok w o x) (s : Step K w o w' o') : BSok w' o' x := ⟨h.1.step s, h.2⟩
theorem SB.no (h : SB w q g l) (X : Ext no w w') : SB w' q g l := ⟨h.p.ext X id, h.b.ext X id, h.ne, h.le⟩
theorem sec_types (v : Value) : (Builtin.append_ #[67, 23] 67 #[.slice (some (blk g)) n 64, v]).run Try.prog w = (Builtin.append_ #[67, 67] 67 #[.slice (some (blk g)) n 64, v]).run Try.prog w := by
  obtain ⟨i, hi, hz, hs, hb⟩ := info_of W.infU8
  unfold Builtin.append_
  simp [run_underlying Try.underlying67, run_underlying Try.underlying23, sizeOf, typeInfo, hi]
theorem blk_row_set {cur : List Value} {t : TypeId} (h : Blk w g t cur) (new : List Value) : Blk (w.setRow g new.toArray) g t new ∧ Ext (fun b => b = g) w (w.setRow g new.toArray) := by
  refine ⟨?_, rfl, rfl, rfl, by simp, fun k _ hk => setRow_other w g k _ hk⟩
  have := setRow_heap w g _ new.toArray t _ h
  unfold Blk
  exact this
theorem run_put (hS : SB w q g l) (hx : RowAt w xa (bytesV x)) (hl : l.length + x.length ≤ 64) :
    ∃ w', (Builtin.append_ #[67, 23] 67 #[.slice (some (blk g)) l.length 64, .slice xa x.length xc]).run Try.prog w = .ok (.slice (some (blk g)) (l ++ x).length 64) w' ∧
      Blk w' g 5 (bytesV (l ++ x ++ List.replicate (64 - (l ++ x).length) 0)) ∧ Ext (fun b => b = g) w w' := by
  obtain ⟨i, hi, hz, hs, hb⟩ := info_of W.infU8
  have e1 : (l ++ x).length = l.length + x.length := List.length_append
  have hle := hS.le
  rw [sec_types]
  cases xa with
  | none =>
    have : x = [] := by simpa [bytesV] using hx.none_nil
    subst this
    refine ⟨w, ?_, by rw [List.append_nil]; exact hS.b, Ext.refl _ _⟩
    rw [e1]
    simp [Builtin.append_, run_underlying Try.underlying67, sizeOf, typeInfo, hi, Builtin.lenOf, Builtin.firstCells, hle, storeCells]
  | some ad =>
    have hlen : (bytesV (l ++ List.replicate (64 - l.length) 0)).length = 64 := by rw [bytesV_length, List.length_append, List.length_replicate]; omega
    have hr := run_append_room (P := Try.prog) (w := w) 67 67 5 i Try.underlying67 hi g l.length 64 _ hS.b ad x.length xc (bytesV x) (by rw [bytesV_length, hs]; omega) (fun j u hu => hx.at_ hu) (bytesV_one x) hl (by
      rw [hs, bytesV_length, List.size_toArray, hlen]; omega)
    rw [hs, Nat.mul_one, bytesV_length] at hr
    have hnew : (bytesV (l ++ List.replicate (64 - l.length) 0)).toArray.toList.take l.length ++ bytesV x ++ (bytesV (l ++ List.replicate (64 - l.length) 0)).toArray.toList.drop (l.length + x.length) = bytesV (l ++ x ++ List.replicate (64 - (l ++ x).length) 0) := by
      have hb : ∀ n, bytesV (l ++ List.replicate n 0) = bytesV l ++ List.replicate n (u8V 0) := fun n => by simp [bytesV]
      have hb2 : ∀ n, bytesV (l ++ x ++ List.replicate n 0) = bytesV l ++ bytesV x ++ List.replicate n (u8V 0) := fun n => by simp [bytesV]
      rw [hb, hb2]
      have h1 : (bytesV l ++ List.replicate (64 - l.length) (u8V 0)).take l.length = bytesV l := by
        rw [List.take_append_of_le_length (by rw [bytesV_length]; omega), List.take_of_length_le (by rw [bytesV_length]; omega)]
      have h2 : (bytesV l ++ List.replicate (64 - l.length) (u8V 0)).drop (l.length + x.length) = List.replicate (64 - (l ++ x).length) (u8V 0) := by
        rw [← bytesV_length l, List.drop_length_add_append, List.drop_replicate]
        congr 1
        rw [e1, bytesV_length]; omega
      show (bytesV l ++ List.replicate (64 - l.length) (u8V 0)).take l.length ++ bytesV x ++ (bytesV l ++ List.replicate (64 - l.length) (u8V 0)).drop (l.length + x.length) = _
      rw [h1, h2]
    rw [hnew] at hr
    obtain ⟨h1, h2⟩ := blk_row_set hS.b (bytesV (l ++ x ++ List.replicate (64 - (l ++ x).length) 0))
    exact ⟨_, by rw [e1]; rw [e1] at hr; exact hr, h1, h2⟩
theorem put_spec (hS : SB w q g l) (hx : RowAt w xa (bytesV x)) (hl : l.length + x.length ≤ 64) :
    Calls Try.prog 34 #[.pointer (some (blk q)), .slice xa x.length xc] w (Ret (.tuple #[]) fun w' => SB w' q g (l ++ x) ∧ Ext (fun b => b = q ∨ b = g) w w') := by
  refine journal_sector_put.run _ _ _ _ ?_
  unfold journal_sector_put.N
  obtain ⟨w7, hr, hb7, X7⟩ := run_put (xc := xc) hS hx hl
  have hne := hS.ne
  have p7 := hS.p.ext X7 (fun e => hne e)
  refine ⟨_, rfl, _, _, _, hS.p.cella (i := 0) rfl, _, _, _, w7, hr, p7.cana (i := 0) rfl, thenW_in fun w8 e8 => ⟨rfl, ⟨p7.seti 0 rfl e8, hb7.oth rfl (fun e => hne e.symm) e8, hne, by rw [List.length_append]; exact hl⟩, ?_⟩⟩
  exact (X7.mono fun b h _ => .inr h).x_set (q := q) (i := 0) rfl (.inl (.inl rfl)) e8
theorem number_spec (hS : SB w q g l) {m : Nat} (hl : l.length + 4 ≤ 64) :
    Calls Try.prog 35 #[.pointer (some (blk q)), .int .u32 m] w (Ret (.tuple #[]) fun w' => SB w' q g (l ++ be4 m) ∧ Ext (fun b => b = q ∨ b = g) w w') := by
  refine journal_sector_number.run _ _ ?_
  unfold journal_sector_number.N
  intro w3 q4 X3 hb hq hq'
  have hrow : RowAt w3 (some (blk q4)) (bytesV (be4 m)) := by
    have := RowAt.of_blk hb
    have e : ∀ k : Nat, Value.int .u8 (IntKind.u8.wrap ((m : Int) / (k : Int))) = u8V (UInt8.ofNat (m / k)) := fun k => wrapU8i (z := ((m / k : Nat) : Int)) (Int.natCast_nonneg _)
    have e1 : Value.int .u8 (IntKind.u8.wrap ((m : Int) / 16777216)) = _ := e 16777216
    have e2 : Value.int .u8 (IntKind.u8.wrap ((m : Int) / 65536)) = _ := e 65536
    have e3 : Value.int .u8 (IntKind.u8.wrap ((m : Int) / 256)) = _ := e 256
    have e4 : Value.int .u8 (IntKind.u8.wrap (m : Int)) = u8V (UInt8.ofNat m) := wrapU8i (z := (m : Int)) (Int.natCast_nonneg _)
    rw [e1, e2, e3, e4] at this
    exact this
  exact (put_spec (xc := 4) (hS.no X3) hrow hl).mono fun v w6 ⟨he, hS6, X6⟩ => ⟨he, rfl, hS6, (X3.mono fun _ h _ => h.elim).then X6 fun b hb => .inl hb⟩
end
end Go.Proofs.Ytgcjipbahfpopaa

/- Journal: the program's Frame, the reference's, and lists of bytes held against each other. -/
set_option linter.unusedVariables false
set_option linter.unusedSimpArgs false
set_option maxRecDepth 20000
set_option maxHeartbeats 2000000
namespace Go.Proofs.Ytgcjipbahfpopaa
open Go Go.Mx Go.Proofs
open W (OwnB GivesW)
/-- a list of bytes' rows, in memory. -/
structure BsRow (w : World) (o : Own) (a : Option Addr) (c : Nat) (l : List BS) : Prop where
  row : Row w o a (l.map BS.v)
  oks : ∀ x ∈ l, BSok w o x
  le : l.length ≤ c
section
variable {w w' w1 : World} {o o' o1 : Own} {q g n N : Nat} {K : Nat → Prop} {b : List UInt8} {a : Option Addr} {c : Nat} {l : List BS}
theorem BsRow.step (h : BsRow w o a c l) (s : Step K w o w' o') : BsRow w' o' a c l := ⟨h.row.step s, fun x hx => (h.oks x hx).step s, h.le⟩
theorem BsRow.nil (w : World) (o : Own) : BsRow w o none 0 [] := ⟨Row.nil _ _ _, fun x h => (by cases h), Nat.le_refl _⟩
/-- a list of one's own, that grows. -/
structure BsL (N : Nat) (w : World) (o : Own) (a : Option Addr) (c : Nat) (l : List BS) : Prop where
  row : LRow 23 1 N w o a l.length c (l.map BS.v)
  oks : ∀ x ∈ l, BSok w o x
theorem BsL.nil (N : Nat) (w : World) (o : Own) : BsL N w o none 0 [] := ⟨LRow.nil _ _ _ _ _, fun x h => (by cases h)⟩
theorem BsL.step (h : BsL N w o a c l) (s : Step K w o w' o') (hk : ∀ k, K k → k < N ∨ w.heap.size ≤ k) : BsL N w' o' a c l := ⟨h.row.step s hk, fun x hx => (h.oks x hx).step s⟩
theorem BsL.give {w0 : World} {o0 : Own} (h : BsL N w1 o1 a c l) (s : Step K w0 o0 w1 o1) (hN : w0.heap.size ≤ N) : BsRow w1 (grow w0 o0) a c l :=
  ⟨h.row.give s hN, fun x hx => ⟨(h.oks x hx).1.forget s, (h.oks x hx).2⟩, h.row.le⟩
theorem BsL.push (h : BsL N w o a c l) (ok : Tags w o) (hl : l.length < 1000000) {x : BS} (hx : BSok w o x) {ww : World} {qq : Nat} (X : Ext no w ww) (hb : Blk ww qq 23 [x.v]) (h1 : w.heap.size ≤ qq) (h2 : qq < ww.heap.size) (hN : N ≤ w.heap.size) :
    ∃ a' c' w' o', (Builtin.append_ #[25, 25] 25 #[.slice a l.length c, .slice (some (blk qq)) 1 1]).run Try.prog ww = .ok (.slice a' (l ++ [x]).length c') w' ∧ Step (fun j => N ≤ j) w o w' o' ∧ BsL N w' o' a' c' (l ++ [x]) := by
  have s1 := Step.of_no X ok
  have hr := h.row.step s1 fun k h => h.elim
  obtain ⟨i, hi, hz, hsz, hby⟩ := info_of inf23
  obtain ⟨a', c', w', o', hrun, s2, hrow, hX⟩ := hr.push (ty := 25) Try.underlying25 hi hz hsz hby rfl (by decide) s1.ok (p := qq) (by omega) h2 (xa := some (blk qq)) (m := 1) (xc := 1) (news := [x.v]) rfl (RowAt.of_blk hb) (fun u hu => by simp at hu; subst hu; rfl) (by omega) (by omega)
  refine ⟨a', c', w', o', by rw [List.length_append]; exact hrun, s1.none.trans s2, ⟨?_, fun y hy => ?_⟩⟩
  · rw [List.length_append, List.map_append]; exact hrow
  · rcases List.mem_append.1 hy with hy | hy
    · exact ((h.oks y hy).step s1).step s2
    · simp at hy; subst hy; exact (hx.step s1).step s2
theorem mk_sector (w : World) : ∃ w', (Instr.makeSlice 67 (.int .i64 0) (.int .i64 64)).run Try.prog w = .ok (.slice (some (blk w.heap.size)) 0 64) w' ∧ Ext no w w' ∧ Blk w' w.heap.size 5 (bytesV (List.replicate 64 0)) ∧ w.heap.size < w'.heap.size := by
  obtain ⟨i, hi, hz, hs, hb⟩ := info_of W.infU8
  have hmk := run_makeSlice (P := Try.prog) (w := w) 67 5 i _ Try.underlying67 hi hz .i64 .i64 0 64 (by omega) (by decide) (by rw [hs]; decide) (by rw [hb]; decide) (by decide)
  rw [hs] at hmk
  have hcells : (madeCells (Value.int .u8 0).cells ((64 : Int).toNat * 1)) = (bytesV (List.replicate 64 0)).toArray := by
    apply Array.ext'
    rw [show (Value.int .u8 0).cells = #[Value.int .u8 0] from rfl, toList_madeCells_one]
    show List.replicate 64 _ = bytesV _
    rw [bytesV, List.map_replicate]; rfl
  rw [hcells] at hmk
  exact ⟨_, hmk, (Ext.refl _ _).alloc _, Blk.new _ _ _, by simp⟩
theorem part_bound {t : Nat} (ht : t < partsN b.length) : 48 * t ≤ b.length ∧ b.length ≤ 4000 ∧ t < 84 := by
  have h84 := partsN_le b.length
  unfold partsN at ht
  split at ht
  · omega
  · split at ht <;> omega
theorem part_row {t : Nat} (hb : RowAt w a (bytesV b)) (hc : b.length ≤ c) : RowAt w (cutA a c (48 * t) 1) (bytesV (partL b t)) := by
  have h := (hb.cut (48 * t) c (by rw [bytesV_length]; exact hc)).take 48
  unfold partL bytesV
  rw [List.map_take, List.map_drop]
  exact h
theorem fFrame_spec (ok : Tags w o) (hb : RowAt w a (bytesV b)) (hc : b.length ≤ c) (hl : b.length < 1000000) (gen round seq : Nat) :
    Calls Try.prog 9 #[.int .u32 gen, .int .u32 round, .int .u32 seq, .slice a b.length c] w (fun z w' => ∃ o' oa oc, ∃ l : List BS, z = .returned (.tuple #[.slice oa l.length oc, .int .i64 (frameK gen round seq b).2]) ∧ Step no w o w' o' ∧ l.map BS.bs = (frameK gen round seq b).1 ∧ BsRow w' o' oa oc l) := by
  refine (journal_Frame.go gen round seq a b.length c (R := fun z w' => ∃ o' oa oc, ∃ l : List BS, z = (.tuple #[.slice oa l.length oc, .int .i64 (frameK gen round seq b).2]) ∧ Step no w o w' o' ∧ l.map BS.bs = (frameK gen round seq b).1 ∧ BsRow w' o' oa oc l) ?_).mono fun z w' ⟨u, he, o', oa, oc, l, hu, hw⟩ => ⟨o', oa, oc, l, by rw [he, hu], hw⟩
  unfold journal_Frame.N
  rw [parts_F, partsI_nat]
  have leaf : ∀ {w2 : World} (k : Int), frameK gen round seq b = ([], k) → Ext no w w2 → ∃ o' oa oc, ∃ l : List BS, Value.tuple #[.slice none 0 0, .int .i64 k] = (.tuple #[.slice oa l.length oc, .int .i64 (frameK gen round seq b).2]) ∧ Step no w o w2 o' ∧ l.map BS.bs = (frameK gen round seq b).1 ∧ BsRow w2 o' oa oc l := fun k hk X => ⟨_, none, 0, [], by rw [hk]; rfl, Step.of_no X ok, by rw [hk]; rfl, BsRow.nil _ _⟩
  have hp0 : (partsN b.length : Int) = 0 ↔ b.length > 4000 := by
    unfold partsN
    split
    · simp; omega
    · split
      · simp; omega
      · omega
  refine ⟨fun h w2 X => leaf 3 (by unfold frameK; rw [if_pos (hp0.1 h)]) X, fun h => ?_⟩
  have h4 : ¬ b.length > 4000 := fun h' => h (hp0.2 h')
  refine ⟨fun h1 w2 X => leaf 1 (by unfold frameK; rw [if_neg h4, if_pos (.inl (by omega))]) X, fun h1 => ⟨fun h2 w2 X => leaf 1 (by unfold frameK; rw [if_neg h4, if_pos (.inr (by omega))]) X, fun h2 w5 X5 => ?_⟩⟩
  have hK : frameK gen round seq b = (frameL gen round seq b, 0) := by unfold frameK; rw [if_neg h4, if_neg (by omega)]
  rw [hK]
  have s5 := Step.of_no X5 ok
  refine ⟨fun m vs w1 => ∃ (t : Nat) (o1 : Own) (oa : Option Addr) (oc : Nat) (l : List BS), vs = [.slice oa l.length oc, .int .i64 t] ∧ m + t = partsN b.length ∧ Step no w o w1 o1 ∧ BsL w.heap.size w1 o1 oa oc l ∧ l.map BS.bs = (List.range t).map (fun i => secL gen round seq i (partsN b.length) (partL b i)), partsN b.length, ⟨0, _, none, 0, [], rfl, rfl, s5, BsL.nil _ _ _, rfl⟩, ?_⟩
  rintro m w13 oa on oc i ⟨t, o13, oa1, oc1, l, hi, hm, s13, hL, hmap⟩
  simp only [List.cons.injEq, Value.slice.injEq, Value.int.injEq, true_and, and_true] at hi
  obtain ⟨⟨rfl, rfl, rfl⟩, rfl⟩ := hi
  refine ⟨fun ht => ?_, fun ht => ?_⟩
  rotate_left
  · have htt : t = partsN b.length := by omega
    subst htt
    exact ⟨_, oa, oc, l, rfl, Step.of_no (s13.ext.mono fun b ⟨_, _, h⟩ _ => h) ok, hmap, hL.give s13 (Nat.le_refl _)⟩
  have htl : t < partsN b.length := by omega
  obtain ⟨hb1, hb2, hb3⟩ := part_bound htl
  have hlen : l.length = t := by have := congrArg List.length hmap; simpa using this
  have hpl : (partL b t).length = min 48 (b.length - 48 * t) := by unfold partL; rw [List.length_take, List.length_drop]
  have hcut : Int.toNat (if (b.length : Int) < (48 : Int) * ((t : Int) + 1) then (b.length : Int) else (48 : Int) * ((t : Int) + 1)) - Int.toNat ((48 : Int) * (t : Int)) = (partL b t).length := by
    rw [hpl]; split <;> omega
  have hcut2 : Int.toNat ((48 : Int) * (t : Int)) = 48 * t := by omega
  refine ⟨by omega, by omega, by omega, by omega, by omega, by omega, by split <;> omega, by split <;> omega, by omega, by split <;> omega, ?_⟩
  rw [hcut, hcut2]
  have hb13 : RowAt w13 a (bytesV b) := hb.no (s13.ext.mono fun b ⟨_, _, h⟩ _ => h)
  obtain ⟨w16, hmk, X16, hbg, hg⟩ := mk_sector w13
  refine ⟨_, _, _, w16, hmk, fun w17 q X17 hbq hq hq' => ?_⟩
  have g17 := hbg.ext X17 id
  have hne : q ≠ w13.heap.size := by omega
  refine ⟨hbq.cana (i := 0) rfl, thenW_in fun w19 e19 => ?_⟩
  have SB19 : SB w19 q w13.heap.size [] := ⟨hbq.seti 0 rfl e19, g17.oth rfl (fun e => hne e.symm) e19, hne, by decide⟩
  have X19 : Ext no w13 w19 := (X16.trans X17).x_set (q := q) (i := 0) rfl (.inr (by omega)) e19
  have l16 := X16.size
  have own : ∀ {w2 w3 : World}, Ext no w13 w2 → Ext (fun b => b = q ∨ b = w13.heap.size) w2 w3 → Ext no w13 w3 := fun h k => h.then k fun b hb => .inr (by omega)
  intro w20 q21 X20 hb21 hq21 hq21'
  have lit1 : RowAt w20 (some (blk q21)) (bytesV [197]) := RowAt.of_blk hb21
  refine (put_spec (xc := 1) (SB19.no X20) lit1 (by decide)).mono fun u w23 ⟨he, S23, X23⟩ => ⟨he, ?_⟩
  have X23 := own (X19.trans X20) X23
  refine (number_spec (m := gen) S23 (by decide)).mono fun u w25 ⟨he, S25, X25⟩ => ⟨he, ?_⟩
  have X25 := own X23 X25
  refine (number_spec (m := round) S25 (by simp [be4])).mono fun u w27 ⟨he, S27, X27⟩ => ⟨he, ?_⟩
  have X27 := own X25 X27
  refine (number_spec (m := seq) S27 (by simp [be4])).mono fun u w29 ⟨he, S29, X29⟩ => ⟨he, ?_⟩
  have X29 := own X27 X29
  intro w30 q31 X30 hb31 hq31 hq31'
  have lit3 : RowAt w30 (some (blk q31)) (bytesV [UInt8.ofNat t, UInt8.ofNat (partsN b.length), UInt8.ofNat (partL b t).length]) := by
    have := RowAt.of_blk hb31
    rw [wrapU8i (Int.natCast_nonneg t), wrapU8i (Int.natCast_nonneg (partsN b.length)), wrapU8i (Int.natCast_nonneg (partL b t).length)] at this
    exact this
  refine (put_spec (xc := 3) (S29.no X30) lit3 (by simp [be4])).mono fun u w33 ⟨he, S33, X33⟩ => ⟨he, ?_⟩
  have X33 := own (X29.trans X30) X33
  have hple := partL_le b t
  refine (put_spec S33 (part_row (hb13.no X33) hc) (by simp [be4]; omega)).mono fun u w35 ⟨he, S35, X35⟩ => ⟨he, ?_⟩
  have X35 := own X33 X35
  refine ⟨_, _, _, S35.p.cella (i := 0) rfl, by decide, fun w38 q39 X38 hb39 hq39 hq39' => ?_⟩
  have s35 := Step.of_no X35 s13.ok
  have hsec : [] ++ [197] ++ be4 gen ++ be4 round ++ be4 seq ++ [UInt8.ofNat t, UInt8.ofNat (partsN b.length), UInt8.ofNat (partL b t).length] ++ partL b t ++ List.replicate (64 - ([] ++ [197] ++ be4 gen ++ be4 round ++ be4 seq ++ [UInt8.ofNat t, UInt8.ofNat (partsN b.length), UInt8.ofNat (partL b t).length] ++ partL b t).length) 0 = secL gen round seq t (partsN b.length) (partL b t) := by
    unfold secL headL
    have : 64 - ([] ++ [197] ++ be4 gen ++ be4 round ++ be4 seq ++ [UInt8.ofNat t, UInt8.ofNat (partsN b.length), UInt8.ofNat (partL b t).length] ++ partL b t).length = 48 - (partL b t).length := by simp [be4] <;> omega
    rw [this]; rfl
  have hbl := S35.b
  rw [hsec] at hbl
  have hsl := secL_len gen round seq t (partsN b.length) hple
  have okx : BSok w35 (grow w13 o13) ⟨some (blk w13.heap.size), 64, secL gen round seq t (partsN b.length) (partL b t)⟩ := ⟨Row.fresh (RowAt.of_blk hbl) fun ad ha => by cases ha; exact Nat.le_refl _, by show (secL _ _ _ _ _ _).length ≤ 64; omega⟩
  have hb39' : Blk w38 q39 23 [BS.v ⟨some (blk w13.heap.size), 64, secL gen round seq t (partsN b.length) (partL b t)⟩] := by
    unfold BS.v; rw [hsl]; exact hb39
  have l13 := s13.size
  obtain ⟨a', c', w41, o41, hr, s41, L41⟩ := (hL.step s35 fun _ h => h.elim).push s35.ok (by omega) okx X38 hb39' hq39 hq39' (by have := X35.size; omega)
  refine ⟨a', _, c', w41, hr, by omega, by omega, m - 1, by omega, t + 1, o41, a', c', _, ?_, by omega, (s13.trans s35).trans' s41 fun i hi => .inr hi, L41, ?_⟩
  · rfl
  · rw [List.map_append, hmap, List.range_succ, List.map_append]; rfl
end
end Go.Proofs.Ytgcjipbahfpopaa

/- Journal: the reference's Frame; lists of bytes held against each other. -/
set_option linter.unusedVariables false
set_option linter.unusedSimpArgs false
set_option maxRecDepth 20000
set_option maxHeartbeats 2000000
namespace Go.Proofs.Ytgcjipbahfpopaa
open Go Go.Mx Go.Proofs
open W (OwnB GivesW)
section
variable {w w' w1 : World} {o o' o1 : Own} {q g n N : Nat} {K : Nat → Prop} {b : List UInt8} {a : Option Addr} {c : Nat} {l : List BS}
theorem u8mod (k : Nat) : UInt8.ofNat (k % 256) = UInt8.ofNat k := by
  apply UInt8.toNat_inj.1
  simp
theorem four_spec {m : Nat} (hm : m < 4294967296) (w : World) :
    Calls Try.prog 36 #[.int .u32 m] w (fun z w' => ∃ q, z = .returned (.slice (some (blk q)) 4 4) ∧ w.heap.size ≤ q ∧ Ext no w w' ∧ Blk w' q 5 (bytesV (be4 m))) := by
  refine (cachetteref10_four.go m (R := fun z w' => ∃ q, z = (.slice (some (blk q)) 4 4) ∧ w.heap.size ≤ q ∧ Ext no w w' ∧ Blk w' q 5 (bytesV (be4 m))) ?_).mono fun z w' ⟨u, he, q, hu, hw⟩ => ⟨q, by rw [he, hu], hw⟩
  unfold cachetteref10_four.N
  intro w2 q3 X2 hb hq hq'
  have d : ∀ k : Nat, 0 < k → Int.tdiv (m : Int) (k : Int) = ((m / k : Nat) : Int) := fun k hk => by rw [Int.tdiv_eq_ediv_of_nonneg (by omega)]; rfl
  have e0 : IntKind.u32.wrap (Int.tdiv (m : Int) 16777216) = ((m / 16777216 : Nat) : Int) := by
    rw [show Int.tdiv (m : Int) 16777216 = _ from d 16777216 (by decide), IntKind.wrap_u32]; omega
  have e1 : Int.tmod (IntKind.u32.wrap (Int.tdiv (m : Int) 65536)) 256 = ((m / 65536 % 256 : Nat) : Int) := by
    rw [show Int.tdiv (m : Int) 65536 = _ from d 65536 (by decide), IntKind.wrap_u32, Int.tmod_eq_emod_of_nonneg (by omega)]; omega
  have e2 : Int.tmod (IntKind.u32.wrap (Int.tdiv (m : Int) 256)) 256 = ((m / 256 % 256 : Nat) : Int) := by
    rw [show Int.tdiv (m : Int) 256 = _ from d 256 (by decide), IntKind.wrap_u32, Int.tmod_eq_emod_of_nonneg (by omega)]; omega
  have e3 : Int.tmod (m : Int) 256 = ((m % 256 : Nat) : Int) := by rw [Int.tmod_eq_emod_of_nonneg (by omega)]; rfl
  refine ⟨q3, rfl, hq, X2, ?_⟩
  rw [e0, e1, e2, e3, wrapU8i (Int.natCast_nonneg _), wrapU8i (Int.natCast_nonneg _), wrapU8i (Int.natCast_nonneg _), wrapU8i (Int.natCast_nonneg _), Int.toNat_natCast, Int.toNat_natCast, Int.toNat_natCast, Int.toNat_natCast, u8mod, u8mod, u8mod] at hb
  exact hb
/-- one's own bytes, and more behind them. -/
theorem appB {w0 wi w1 : World} {N : Nat} {a xa : Option Addr} {c xc : Nat} {l x : List UInt8} (hB : OwnB N wi a c l) (X : Ext no w0 wi) (h0 : w0.heap.size ≤ N) (hN : N ≤ wi.heap.size) (hx : Ext no wi w1) (hO : RowAt w1 xa (bytesV x)) (hl : l.length + x.length ≤ 100000000) :
    ∃ a' c' w', (Builtin.append_ #[23, 23] 23 #[.slice a l.length c, .slice xa x.length xc]).run Try.prog w1 = .ok (.slice a' (l ++ x).length c') w' ∧ OwnB N w' a' c' (l ++ x) ∧ Ext no w0 w' ∧ N ≤ w'.heap.size := by
  obtain ⟨a', c', w', hr, hO2, hx2⟩ := (W.OwnB.no hB hx).append (t := 23) (ty := 23) Try.underlying23 (Nat.le_trans hN hx.size) (xc := xc) hO hl
  exact ⟨a', c', w', hr, hO2, (X.trans hx).then hx2 fun b hb => .inr (Nat.le_trans h0 hb), Nat.le_trans hN (Nat.le_trans hx.size hx2.size)⟩
/-- one's own bytes that are nobody's stay. -/
theorem own_stay {x : BS} (h : OwnB N w x.a x.c x.bs) (hr : BSok w o x) (hne : x.bs ≠ []) (s : Step K w o w' o') : OwnB N w' x.a x.c x.bs :=
  W.OwnB.ext h s.ext fun ad ha ⟨k, hk, _⟩ => by
    have h0 : bytesV x.bs ≠ [] := fun e => hne (by simpa [bytesV] using e)
    rw [hr.1.2 h0 ad ha] at hk; cases hk
theorem rFrame_spec (ok : Tags w o) (hb : RowAt w a (bytesV b)) (hc : b.length ≤ c) (hl : b.length < 1000000) {gen round seq : Nat} (hg : gen < 4294967296) (hro : round < 4294967296) (hse : seq < 4294967296) :
    Calls Try.prog 10 #[.int .u32 gen, .int .u32 round, .int .u32 seq, .slice a b.length c] w (fun z w' => ∃ o' oa oc, ∃ l : List BS, z = .returned (.tuple #[.slice oa l.length oc, .int .i64 (frameK gen round seq b).2]) ∧ Step no w o w' o' ∧ l.map BS.bs = (frameK gen round seq b).1 ∧ BsRow w' o' oa oc l ∧ ∀ x ∈ l, OwnB w.heap.size w' x.a x.c x.bs) := by
  refine (cachetteref10_Frame.go gen round seq a b.length c (R := fun z w' => ∃ o' oa oc, ∃ l : List BS, z = (.tuple #[.slice oa l.length oc, .int .i64 (frameK gen round seq b).2]) ∧ Step no w o w' o' ∧ l.map BS.bs = (frameK gen round seq b).1 ∧ BsRow w' o' oa oc l ∧ ∀ x ∈ l, OwnB w.heap.size w' x.a x.c x.bs) ?_).mono fun z w' ⟨u, he, o', oa, oc, l, hu, hw⟩ => ⟨o', oa, oc, l, by rw [he, hu], hw⟩
  unfold cachetteref10_Frame.N
  rw [refParts_F, partsI_nat]
  have leaf : ∀ {w2 : World} (k : Int), frameK gen round seq b = ([], k) → Ext no w w2 → ∃ o' oa oc, ∃ l : List BS, Value.tuple #[.slice none 0 0, .int .i64 k] = (.tuple #[.slice oa l.length oc, .int .i64 (frameK gen round seq b).2]) ∧ Step no w o w2 o' ∧ l.map BS.bs = (frameK gen round seq b).1 ∧ BsRow w2 o' oa oc l ∧ ∀ x ∈ l, OwnB w.heap.size w2 x.a x.c x.bs := fun k hk X => ⟨_, none, 0, [], by rw [hk]; rfl, Step.of_no X ok, by rw [hk]; rfl, BsRow.nil _ _, fun x hx => by cases hx⟩
  refine ⟨fun h => leaf 3 (by unfold frameK; rw [if_pos (by omega)]) (Ext.refl _ _), fun h => ?_⟩
  have h4 : ¬ b.length > 4000 := by omega
  refine ⟨fun h1 => leaf 1 (by unfold frameK; rw [if_neg h4, if_pos (.inl (by omega))]) (Ext.refl _ _), fun h1 => ⟨fun h2 => leaf 1 (by unfold frameK; rw [if_neg h4, if_pos (.inr (by omega))]) (Ext.refl _ _), fun h2 w5 X5 => ?_⟩⟩
  have hK : frameK gen round seq b = (frameL gen round seq b, 0) := by unfold frameK; rw [if_neg h4, if_neg (by omega)]
  rw [hK]
  have s5 := Step.of_no X5 ok
  refine ⟨fun m vs w1 => ∃ (t : Nat) (o1 : Own) (oa : Option Addr) (oc : Nat) (l : List BS), vs = [.slice oa l.length oc, .int .i64 t] ∧ m + t = partsN b.length ∧ Step no w o w1 o1 ∧ BsL w.heap.size w1 o1 oa oc l ∧ l.map BS.bs = (List.range t).map (fun i => secL gen round seq i (partsN b.length) (partL b i)) ∧ (∀ x ∈ l, OwnB w.heap.size w1 x.a x.c x.bs ∧ x.bs ≠ []), partsN b.length, ⟨0, _, none, 0, [], rfl, rfl, s5, BsL.nil _ _ _, rfl, fun x hx => by cases hx⟩, ?_⟩
  rintro m w13 oa on oc i ⟨t, o13, oa1, oc1, l, hi, hm, s13, hL, hmap, hown⟩
  simp only [List.cons.injEq, Value.slice.injEq, Value.int.injEq, true_and, and_true] at hi
  obtain ⟨⟨rfl, rfl, rfl⟩, rfl⟩ := hi
  refine ⟨fun ht => ?_, fun ht => ?_⟩
  rotate_left
  · have htt : t = partsN b.length := by omega
    subst htt
    exact ⟨_, oa, oc, l, rfl, Step.of_no (s13.ext.mono fun b ⟨_, _, h⟩ _ => h) ok, hmap, hL.give s13 (Nat.le_refl _), fun x hx => (hown x hx).1⟩
  have htl : t < partsN b.length := by omega
  obtain ⟨hb1, hb2, hb3⟩ := part_bound htl
  have hlen : l.length = t := by have := congrArg List.length hmap; simpa using this
  have hpl : (partL b t).length = min 48 (b.length - 48 * t) := by unfold partL; rw [List.length_take, List.length_drop]
  have hcut : Int.toNat (if (b.length : Int) < ((48 : Int) * (t : Int)) + 48 then (b.length : Int) else ((48 : Int) * (t : Int)) + 48) - Int.toNat ((48 : Int) * (t : Int)) = (partL b t).length := by
    rw [hpl]; split <;> omega
  have hcut2 : Int.toNat ((48 : Int) * (t : Int)) = 48 * t := by omega
  refine ⟨by omega, by omega, by omega, by omega, by omega, by omega, by split <;> omega, by split <;> omega, by omega, by split <;> omega, ?_⟩
  rw [hcut, hcut2]
  have hb13 : RowAt w13 a (bytesV b) := hb.no (s13.ext.mono fun b ⟨_, _, h⟩ _ => h)
  intro w15 q16 X15 hb16 hq16 hq16'
  have O15 : OwnB w13.heap.size w15 (some (blk q16)) 1 [197] := ⟨owns_of_blk hb16 rfl (by unfold maxLen; decide), fun ad ha => by cases ha; exact ⟨hq16, hq16'⟩⟩
  have l15 := X15.size
  have hple := partL_le b t
  refine (four_spec hg w15).mono fun u w19 ⟨q1, he, _, X19, hb1'⟩ => ⟨_, _, _, he, ?_⟩
  obtain ⟨a20, c20, w21, hr21, O21, X21, n21⟩ := appB (xc := 4) O15 X15 (Nat.le_refl _) l15 X19 (RowAt.of_blk hb1') (by simp [be4])
  refine ⟨a20, _, c20, w21, hr21, ?_⟩
  refine (four_spec hro w21).mono fun u w24 ⟨q2, he, _, X24, hb2'⟩ => ⟨_, _, _, he, ?_⟩
  obtain ⟨a25, c25, w26, hr26, O26, X26, n26⟩ := appB (xc := 4) O21 X21 (Nat.le_refl _) n21 X24 (RowAt.of_blk hb2') (by simp [be4])
  refine ⟨a25, _, c25, w26, hr26, ?_⟩
  refine (four_spec hse w26).mono fun u w29 ⟨q3, he, _, X29, hb3'⟩ => ⟨_, _, _, he, ?_⟩
  obtain ⟨a30, c30, w31, hr31, O31, X31, n31⟩ := appB (xc := 4) O26 X26 (Nat.le_refl _) n26 X29 (RowAt.of_blk hb3') (by simp [be4])
  refine ⟨a30, _, c30, w31, hr31, fun w32 q33 X32 hb33 hq33 hq33' => ?_⟩
  have lit3 : RowAt w32 (some (blk q33)) (bytesV [UInt8.ofNat t, UInt8.ofNat (partsN b.length), UInt8.ofNat (partL b t).length]) := by
    have := RowAt.of_blk hb33
    rw [wrapU8i (Int.natCast_nonneg t), wrapU8i (Int.natCast_nonneg (partsN b.length)), wrapU8i (Int.natCast_nonneg (partL b t).length)] at this
    exact this
  obtain ⟨a34, c34, w35, hr35, O35, X35, n35⟩ := appB (xc := 3) O31 X31 (Nat.le_refl _) n31 X32 lit3 (by simp [be4])
  refine ⟨a34, _, c34, w35, hr35, ?_⟩
  obtain ⟨a36, c36, w37, hr37, O37, X37, n37⟩ := appB (xc := c - 48 * t) O35 X35 (Nat.le_refl _) n35 (Ext.refl no w35) (part_row (t := t) (hb13.no X35) hc) (by simp [be4]; omega)
  refine ⟨a36, _, c36, w37, hr37, ?_⟩
  have hbase : [197] ++ be4 gen ++ be4 round ++ be4 seq ++ [UInt8.ofNat t, UInt8.ofNat (partsN b.length), UInt8.ofNat (partL b t).length] ++ partL b t = headL gen round seq t (partsN b.length) (partL b t).length ++ partL b t := by simp [headL]
  rw [hbase] at O37 ⊢
  have hbl : (headL gen round seq t (partsN b.length) (partL b t).length ++ partL b t).length = 16 + (partL b t).length := by rw [List.length_append, headL_len]
  generalize hB : headL gen round seq t (partsN b.length) (partL b t).length ++ partL b t = base at *
  refine ⟨fun m vs w1 => ∃ (k : Nat) (sa : Option Addr) (sc : Nat), vs = [.slice sa (base ++ List.replicate k 0).length sc] ∧ m + base.length + k = 64 ∧ OwnB w13.heap.size w1 sa sc (base ++ List.replicate k 0) ∧ Ext no w13 w1 ∧ w13.heap.size ≤ w1.heap.size, 64 - base.length, ⟨0, a36, c36, by simp, by omega, by simpa using O37, X37, n37⟩, ?_⟩
  rintro m2 w41 sa sn sc ⟨k, sa', sc', hi, hm2, O41, X41, n41⟩
  simp only [List.cons.injEq, Value.slice.injEq, and_true] at hi
  obtain ⟨rfl, rfl, rfl⟩ := hi
  have hlk : (base ++ List.replicate k (0 : UInt8)).length = base.length + k := by simp
  refine ⟨fun hlt w43 q44 X43 hb44 hq44 hq44' => ?_, fun hge w48 q49 X48 hb49 hq49 hq49' => ?_⟩
  · have lit0 : RowAt w43 (some (blk q44)) (bytesV [0]) := RowAt.of_blk hb44
    obtain ⟨a45, c45, w46, hr46, O46, X46, n46⟩ := appB (xc := 1) O41 X41 (Nat.le_refl _) n41 X43 lit0 (by rw [hlk]; simp; omega)
    have hk1 : base ++ List.replicate k (0 : UInt8) ++ [0] = base ++ List.replicate (k + 1) 0 := by rw [List.append_assoc, List.replicate_succ']
    rw [hk1] at hr46 O46
    exact ⟨a45, _, c45, w46, hr46, m2 - 1, by omega, k + 1, a45, c45, rfl, by omega, O46, X46, n46⟩
  · have hk : k = 48 - (partL b t).length := by omega
    have hsec : base ++ List.replicate k 0 = secL gen round seq t (partsN b.length) (partL b t) := by unfold secL; rw [hB, hk]
    rw [hsec] at O41 hb49
    have s41 := Step.of_no X41 s13.ok
    have okx : BSok w41 (grow w13 o13) ⟨sa, sc, secL gen round seq t (partsN b.length) (partL b t)⟩ := ⟨Row.fresh O41.row fun ad ha => (O41.fr ad ha).1, O41.le⟩
    have l13 := s13.size
    obtain ⟨a', c', w51, o51, hr, s51, L51⟩ := (hL.step s41 fun _ h => h.elim).push s41.ok (by omega) okx X48 hb49 hq49 hq49' (by have := X41.size; omega)
    refine ⟨a', _, c', w51, hr, by omega, by omega, m - 1, by omega, t + 1, o51, a', c', _, rfl, by omega, (s13.trans s41).trans' s51 fun i hi => .inr hi, L51, by rw [List.map_append, hmap, List.range_succ, List.map_append]; rfl, fun x hx => ?_⟩
    have hne : secL gen round seq t (partsN b.length) (partL b t) ≠ [] := fun e => by have := secL_len gen round seq t (partsN b.length) hple; rw [e] at this; cases this
    rcases List.mem_append.1 hx with hx | hx
    · obtain ⟨p1, p2⟩ := hown x hx
      have q1 := own_stay p1 (hL.oks x hx) p2 s41
      exact ⟨own_stay q1 ((hL.oks x hx).step s41) p2 s51, p2⟩
    · simp at hx; subst hx
      exact ⟨own_stay (x := ⟨sa, sc, secL gen round seq t (partsN b.length) (partL b t)⟩) ⟨O41.own, fun ad ha => ⟨Nat.le_trans l13 (O41.fr ad ha).1, (O41.fr ad ha).2⟩⟩ okx hne s51, hne⟩
theorem lists_spec {aa ba : Option Addr} {ac bc : Nat} {l1 l2 : List BS} (h1 : RowAt w aa (l1.map BS.v)) (h2 : RowAt w ba (l2.map BS.v)) (k1 : ∀ x ∈ l1, RowAt w x.a (bytesV x.bs) ∧ x.bs.length < 1000000) (k2 : ∀ x ∈ l2, RowAt w x.a (bytesV x.bs)) (hl : l1.length < 1000000) :
    Calls Try.prog 11 #[.slice aa l1.length ac, .slice ba l2.length bc] w (Ret (.bool (decide (l1.map BS.bs = l2.map BS.bs))) fun w' => Ext no w w') := by
  refine cachetteref10_Lists.run _ _ _ _ _ _ ?_
  unfold cachetteref10_Lists.N
  have leafF : l1.map BS.bs ≠ l2.map BS.bs → ∀ {w2 : World}, Ext no w w2 → Value.bool false = .bool (decide (l1.map BS.bs = l2.map BS.bs)) ∧ Ext no w w2 := fun h _ X => ⟨by rw [decide_eq_false h], X⟩
  refine ⟨fun h => leafF (fun e => h (by have := congrArg List.length e; simp at this; omega)) (Ext.refl _ _), fun h => ?_⟩
  have hll : l1.length = l2.length := by omega
  refine ⟨fun m vs w1 => ∃ t : Nat, vs = [.int .i64 t] ∧ m + t = l1.length ∧ Ext no w w1 ∧ (l1.map BS.bs).take t = (l2.map BS.bs).take t, l1.length, ⟨0, rfl, rfl, Ext.refl _ _, rfl⟩, ?_⟩
  rintro m w7 i ⟨t, hi, hm, X7, htk⟩
  simp only [List.cons.injEq, Value.int.injEq, true_and, and_true] at hi
  subst hi
  refine ⟨fun ht => ?_, fun ht => ?_⟩
  rotate_left
  · have htt : t = l1.length := by omega
    rw [List.take_of_length_le (by simp; omega), List.take_of_length_le (by simp; omega)] at htk
    exact ⟨by rw [decide_eq_true htk], X7⟩
  have ht1 : t < l1.length := by omega
  have ht2 : t < l2.length := by omega
  have g1 : l1[t]? = some l1[t] := List.getElem?_eq_getElem ht1
  have g2 : l2[t]? = some l2[t] := List.getElem?_eq_getElem ht2
  obtain ⟨x1, x2⟩ := k1 _ (List.getElem_mem ht1)
  have y1 := k2 _ (List.getElem_mem ht2)
  have m1 : (l1.map BS.v)[t]? = some (BS.v l1[t]) := by rw [List.getElem?_map, g1]; rfl
  have m2 : (l2.map BS.v)[t]? = some (BS.v l2[t]) := by rw [List.getElem?_map, g2]; rfl
  have n1 : (l1.map BS.bs)[t]? = some (l1[t]).bs := by rw [List.getElem?_map, g1]; rfl
  have n2 : (l2.map BS.bs)[t]? = some (l2[t]).bs := by rw [List.getElem?_map, g2]; rfl
  generalize l1[t] = u at *
  generalize l2[t] = v at *
  obtain ⟨ad, rfl, c1⟩ := h1 t _ m1
  obtain ⟨bd, rfl, c2⟩ := h2 t _ m2
  refine ⟨ad, rfl, by omega, by omega, u.a, u.bs.length, u.c, by rw [Int.toNat_natCast, Nat.mul_one]; exact X7.cell c1 id, bd, rfl, by omega, by omega, v.a, v.bs.length, v.c, by rw [Int.toNat_natCast, Nat.mul_one]; exact X7.cell c2 id, fun w9 X9 => ?_⟩
  refine (W.sameB_spec ((x1.no X7).no X9) ((y1.no X7).no X9) x2).mono fun z w18 ⟨he, X18⟩ => ⟨_, he, fun hs => ?_, fun hs => ?_⟩
  · have hne := of_decide_eq_false hs
    exact leafF (fun e => hne (by rw [e, n2] at n1; injection n1 with n1; exact n1.symm)) ((X7.trans X9).trans X18)
  · have heq := of_decide_eq_true hs
    exact ⟨by omega, by omega, m - 1, by omega, t + 1, rfl, by omega, (X7.trans X9).trans X18, by rw [List.take_add_one, List.take_add_one, htk, n1, n2, heq]⟩
end
end Go.Proofs.Ytgcjipbahfpopaa

/- Journal: predicates of scans. -/
set_option linter.unusedVariables false
set_option linter.unusedSimpArgs false
set_option maxRecDepth 20000
set_option maxHeartbeats 2000000
namespace Go.Proofs.Ytgcjipbahfpopaa
open Go Go.Mx Go.Proofs
/-- bytes.Equal -/
def bytes_Equal.M (a3 : Option Addr) (a2 : Nat) (a0 : Nat) (a5 : Option Addr) (a1 : Nat) (a4 : Nat) (R : Value → World → Prop) (w : World) : Prop :=
 ∃ (s3 : ByteArray), (convert 23 9 (.slice a3 a2 a0)).run Try.prog w = .ok (.string s3) w ∧
 ∃ (s4 : ByteArray), (convert 23 9 (.slice a5 a1 a4)).run Try.prog w = .ok (.string s4) w ∧
 R (.bool (s3.toList == s4.toList)) w

theorem bytes_Equal.eq (a1a : Option Addr) (a1n : Nat) (a1c : Nat) (b2a : Option Addr) (b2n : Nat) (b2c : Nat) (R : Value → World → Prop) (w : World) : mfunc Try.prog [] 52 [.slice a1a a1n a1c, .slice b2a b2n b2c] R w = bytes_Equal.M a1a a1n a1c b2a b2n b2c R w := by kernel_rfl
theorem bytes_Equal.ok (a3 : Option Addr) (a2 : Nat) (a0 : Nat) (a5 : Option Addr) (a1 : Nat) (a4 : Nat) {R : Value → World → Prop} {w : World} (h : bytes_Equal.M a3 a2 a0 a5 a1 a4 R w) : Calls Try.prog 52 #[.slice a3 a2 a0, .slice a5 a1 a4] w fun e w' => ∃ v, e = .returned v ∧ R v w' :=
  mfunc_ok follows (H := []) (args := [.slice a3 a2 a0, .slice a5 a1 a4]) (by rw [bytes_Equal.eq]; exact h)

def bytes_Equal.N (a3 : Option Addr) (a2 : Nat) (a0 : Nat) (a5 : Option Addr) (a1 : Nat) (a4 : Nat) (R : Value → World → Prop) (w : World) : Prop :=
 ∃ (s3 : ByteArray), (convert 23 9 (.slice a3 a2 a0)).run Try.prog w = .ok (.string s3) w ∧
 ∃ (s5 : ByteArray), (convert 23 9 (.slice a5 a1 a4)).run Try.prog w = .ok (.string s5) w ∧
 R (.bool (s3.toList == s5.toList)) w

theorem bytes_Equal.up (a3 : Option Addr) (a2 : Nat) (a0 : Nat) (a5 : Option Addr) (a1 : Nat) (a4 : Nat) {R : Value → World → Prop} {w : World} (h : bytes_Equal.N a3 a2 a0 a5 a1 a4 R w) : bytes_Equal.M a3 a2 a0 a5 a1 a4 R w := by
  unfold bytes_Equal.M
  unfold bytes_Equal.N at h
  obtain ⟨s3, a6, h⟩ := h
  refine ⟨s3, a6, ?_⟩
  obtain ⟨s5, a7, h⟩ := h
  refine ⟨s5, a7, ?_⟩
  exact h

theorem bytes_Equal.go (a3 : Option Addr) (a2 : Nat) (a0 : Nat) (a5 : Option Addr) (a1 : Nat) (a4 : Nat) {R : Value → World → Prop} {w : World} (h : bytes_Equal.N a3 a2 a0 a5 a1 a4 R w) : Calls Try.prog 52 #[.slice a3 a2 a0, .slice a5 a1 a4] w fun e w' => ∃ v, e = .returned v ∧ R v w' := bytes_Equal.ok a3 a2 a0 a5 a1 a4 (bytes_Equal.up a3 a2 a0 a5 a1 a4 h)
theorem bytes_Equal.run (a3 : Option Addr) (a2 : Nat) (a0 : Nat) (a5 : Option Addr) (a1 : Nat) (a4 : Nat) {V : Value} {Q : World → Prop} {w : World} (h : bytes_Equal.N a3 a2 a0 a5 a1 a4 (fun v w' => v = V ∧ Q w') w) : Calls Try.prog 52 #[.slice a3 a2 a0, .slice a5 a1 a4] w (Ret V Q) := (bytes_Equal.go a3 a2 a0 a5 a1 a4 h).mono fun e w' ⟨v, he, hv, hq⟩ => ⟨by rw [he, hv], hq⟩

/-- slices.EqualFunc[[][]byte,[][]byte,[]byte,[]byte] -/
def slices_EqualFunc_byte_byte_byte_byte.M (ak : Option Addr) (ac : Nat) (an : Nat) (al : Option Addr) (ai : Nat) (am : Nat) (a0 : Nat) (a9 : Array Value) (aa : Array Value) (R : Value → World → Prop) (w : World) : Prop :=
 bif (ac : Int) != (ai : Int) then (
 R (.bool false) w) else (
 ∃ (I0 : Nat → List Value → World → Prop) (m5 : Nat), I0 m5 [.int .i64 0] w ∧ ∀ (m6 : Nat) (a5 : World) (t4 : Int), I0 m6 [.int .i64 t4] a5 →
 bif decide (t4 < (ac : Int)) then (
 ak.elim False fun a8 =>
 0 ≤ (t4 : Int) ∧ (t4 : Int) < (ac : Int) ∧
 ∃ (ad : Option Addr) (af : Nat) (ab : Nat), a5.cell? (a8.add (Int.toNat t4 * 1)) = some (.slice ad af ab) ∧
 al.elim False fun aj =>
 0 ≤ (t4 : Int) ∧ (t4 : Int) < (ai : Int) ∧
 ∃ (a3 : Option Addr) (a2 : Nat) (a4 : Nat), a5.cell? (aj.add (Int.toNat t4 * 1)) = some (.slice a3 a2 a4) ∧
 bif enters Try.prog a0 then Calls Try.prog a0 (a9.toList ++ ([.slice ad af ab, .slice a3 a2 a4] : List Value) ++ aa.toList).toArray a5 (fun ae a7 => ∃ (a6 : Bool), ae = .returned (.bool a6) ∧
 bif !a6 then (
 R (.bool false) a7) else (
 ∃ ah, ah < m6 ∧ I0 ah [.int .i64 (IntKind.i64.wrap (t4 + 1))] a7)) else (∃ (a6 : Bool) (a1 : World), (externCall a0 (a9.toList ++ ([.slice ad af ab, .slice a3 a2 a4] : List Value) ++ aa.toList).toArray).run Try.prog a5 = .ok (.bool a6) a1 ∧
 bif !a6 then (
 R (.bool false) a1) else (
 ∃ ag, ag < m6 ∧ I0 ag [.int .i64 (IntKind.i64.wrap (t4 + 1))] a1))) else (
 R (.bool true) a5))

theorem slices_EqualFunc_byte_byte_byte_byte.eq (s1a : Option Addr) (s1n : Nat) (s1c : Nat) (s2a : Option Addr) (s2n : Nat) (s2c : Nat) (eq3k : Nat) (eq3f : Array Value) (eq3g : Array Value) (R : Value → World → Prop) (w : World) : mfunc Try.prog [(0, [1, 2, 15, 16], [(17, (.one (.int .i64)))])] 51 [.slice s1a s1n s1c, .slice s2a s2n s2c, .func (.func eq3k) eq3f eq3g] R w = slices_EqualFunc_byte_byte_byte_byte.M s1a s1n s1c s2a s2n s2c eq3k eq3f eq3g R w := by kernel_rfl
theorem slices_EqualFunc_byte_byte_byte_byte.ok (a3 : Option Addr) (a5 : Nat) (a6 : Nat) (a8 : Option Addr) (a7 : Nat) (a4 : Nat) (a1 : Nat) (a0 : Array Value) (a2 : Array Value) {R : Value → World → Prop} {w : World} (h : slices_EqualFunc_byte_byte_byte_byte.M a3 a5 a6 a8 a7 a4 a1 a0 a2 R w) : Calls Try.prog 51 #[.slice a3 a5 a6, .slice a8 a7 a4, .func (.func a1) a0 a2] w fun e w' => ∃ v, e = .returned v ∧ R v w' :=
  mfunc_ok follows (H := [(0, [1, 2, 15, 16], [(17, (.one (.int .i64)))])]) (args := [.slice a3 a5 a6, .slice a8 a7 a4, .func (.func a1) a0 a2]) (by rw [slices_EqualFunc_byte_byte_byte_byte.eq]; exact h)

def slices_EqualFunc_byte_byte_byte_byte.N (ai : Option Addr) (a3 : Nat) (al : Nat) (aj : Option Addr) (ac : Nat) (ak : Nat) (a2 : Nat) (aa : Array Value) (ab : Array Value) (R : Value → World → Prop) (w : World) : Prop :=
 ((a3 : Int) ≠ (ac : Int) →
 R (.bool false) w) ∧
 ((a3 : Int) = (ac : Int) →
 ∃ (I0 : Nat → List Value → World → Prop) (m6 : Nat), I0 m6 [.int .i64 0] w ∧ ∀ (m7 : Nat) (a6 : World) (t5 : Int), I0 m7 [.int .i64 t5] a6 →
 (t5 < (a3 : Int) →
 ∃ ag : Addr, ai = some ag ∧
 0 ≤ (t5 : Int) ∧ (t5 : Int) < (a3 : Int) ∧
 ∃ (a9 : Option Addr) (a8 : Nat) (a0 : Nat), a6.cell? (ag.add (Int.toNat t5 * 1)) = some (.slice a9 a8 a0) ∧
 ∃ ah : Addr, aj = some ah ∧
 0 ≤ (t5 : Int) ∧ (t5 : Int) < (ac : Int) ∧
 ∃ (a5 : Option Addr) (a4 : Nat) (a1 : Nat), a6.cell? (ah.add (Int.toNat t5 * 1)) = some (.slice a5 a4 a1) ∧
 enters Try.prog a2 = true ∧ Calls Try.prog a2 (aa.toList ++ ([.slice a9 a8 a0, .slice a5 a4 a1] : List Value) ++ ab.toList).toArray a6 (fun ad a7 => ∃ (ae : Bool), ad = .returned (.bool ae) ∧
 (ae = false →
 R (.bool false) a7) ∧
 (ae = true →
 (-9223372036854775808 : Int) ≤ (t5 + 1) ∧ (t5 + 1) < 9223372036854775808 ∧
 ∃ af, af < m7 ∧ I0 af [.int .i64 (t5 + 1)] a7))) ∧
 ((a3 : Int) ≤ t5 →
 R (.bool true) a6))

theorem slices_EqualFunc_byte_byte_byte_byte.up (ah : Option Addr) (ai : Nat) (aj : Nat) (al : Option Addr) (ak : Nat) (ag : Nat) (a0 : Nat) (a1 : Array Value) (a2 : Array Value) {R : Value → World → Prop} {w : World} (h : slices_EqualFunc_byte_byte_byte_byte.N ah ai aj al ak ag a0 a1 a2 R w) : slices_EqualFunc_byte_byte_byte_byte.M ah ai aj al ak ag a0 a1 a2 R w := by
  unfold slices_EqualFunc_byte_byte_byte_byte.M
  unfold slices_EqualFunc_byte_byte_byte_byte.N at h
  refine bif_of (fun c4 => ?_) (fun c4 => ?_)
  · have h := h.1 (bne_t c4)
    exact h
  · have h := h.2 (bne_f c4)
    obtain ⟨I0, m6, h0, h⟩ := h
    refine ⟨I0, m6, h0, fun m7 aq t5 hI => ?_⟩
    have h := h m7 aq t5 hI
    refine bif_of (fun c9 => ?_) (fun c9 => ?_)
    · have h := h.1 (of_decide_eq_true c9)
      obtain ⟨av, aa, h⟩ := h
      refine elim_some aa ?_
      obtain ⟨ad, a8, h⟩ := h
      refine ⟨ad, a8, ?_⟩
      obtain ⟨af, ae, a3, a6, h⟩ := h
      refine ⟨af, ae, a3, a6, ?_⟩
      obtain ⟨aw, ac, h⟩ := h
      refine elim_some ac ?_
      obtain ⟨ad, a8, h⟩ := h
      refine ⟨ad, a8, ?_⟩
      obtain ⟨ab, a9, a5, a7, h⟩ := h
      refine ⟨ab, a9, a5, a7, ?_⟩
      obtain ⟨hen, h⟩ := h
      refine bif_tt hen ?_
      refine h.mono fun an au h => ?_
      obtain ⟨ao, he, h⟩ := h
      refine ⟨ao, he, ?_⟩
      refine bif_of (fun a4 => ?_) (fun a4 => ?_)
      · have h := h.1 (not_t a4)
        exact h
      · have h := h.2 (not_f a4)
        obtain ⟨ap, ar, h⟩ := h
        try rw [w64 ap ar]
        obtain ⟨am, hk, h⟩ := h
        exact ⟨am, hk, h⟩
    · have h := h.2 (Int.not_lt.1 (of_decide_eq_false c9))
      exact h

theorem slices_EqualFunc_byte_byte_byte_byte.go (a3 : Option Addr) (a5 : Nat) (a6 : Nat) (a8 : Option Addr) (a7 : Nat) (a4 : Nat) (a1 : Nat) (a0 : Array Value) (a2 : Array Value) {R : Value → World → Prop} {w : World} (h : slices_EqualFunc_byte_byte_byte_byte.N a3 a5 a6 a8 a7 a4 a1 a0 a2 R w) : Calls Try.prog 51 #[.slice a3 a5 a6, .slice a8 a7 a4, .func (.func a1) a0 a2] w fun e w' => ∃ v, e = .returned v ∧ R v w' := slices_EqualFunc_byte_byte_byte_byte.ok a3 a5 a6 a8 a7 a4 a1 a0 a2 (slices_EqualFunc_byte_byte_byte_byte.up a3 a5 a6 a8 a7 a4 a1 a0 a2 h)
theorem slices_EqualFunc_byte_byte_byte_byte.run (a3 : Option Addr) (a5 : Nat) (a6 : Nat) (a8 : Option Addr) (a7 : Nat) (a4 : Nat) (a1 : Nat) (a0 : Array Value) (a2 : Array Value) {V : Value} {Q : World → Prop} {w : World} (h : slices_EqualFunc_byte_byte_byte_byte.N a3 a5 a6 a8 a7 a4 a1 a0 a2 (fun v w' => v = V ∧ Q w') w) : Calls Try.prog 51 #[.slice a3 a5 a6, .slice a8 a7 a4, .func (.func a1) a0 a2] w (Ret V Q) := (slices_EqualFunc_byte_byte_byte_byte.go a3 a5 a6 a8 a7 a4 a1 a0 a2 h).mono fun e w' ⟨v, he, hv, hq⟩ => ⟨by rw [he, hv], hq⟩

/-- journal.record -/
def journal_record.M (ak : Option Addr) (b0 : Nat) (au : Nat) (b4 : Int) (b5 : Int) (R : Value → World → Prop) (w : World) : Prop :=
 bif (b0 : Int) == 0 then (
 R (.tuple #[.slice none 0 0, .int .i64 0]) w) else (
 ak.elim False fun a4 =>
 0 ≤ (0 : Int) ∧ (0 : Int) < (b0 : Int) ∧
 ∃ (ba : Option Addr) (b8 : Nat) (bb : Nat), w.cell? (a4.add (Int.toNat 0 * 1)) = some (.slice ba b8 bb) ∧
 Calls Try.prog 38 #[.slice ba b8 bb] w fun bh ar => ∃ (ay : Bool), bh = .returned (.bool ay) ∧
 bif !ay then (
 R (.tuple #[.slice none 0 0, .int .i64 0]) ar) else (
 ak.elim False fun a9 =>
 0 ≤ (0 : Int) ∧ (0 : Int) < (b0 : Int) ∧
 ∃ (ah : Option Addr) (aj : Nat) (ax : Nat), ar.cell? (a9.add (Int.toNat 0 * 1)) = some (.slice ah aj ax) ∧
 ah.elim False fun be =>
 0 ≤ (14 : Int) ∧ (14 : Int) < (aj : Int) ∧
 ∃ (ai : Int), ar.cell? (be.add (Int.toNat 14 * 1)) = some (.int .u8 ai) ∧
 bif decide ((IntKind.i64.wrap ai) > (b0 : Int)) then (
 R (.tuple #[.slice none 0 0, .int .i64 0]) ar) else (
 (0 : Int) ≤ ((IntKind.i64.wrap ai) : Int) ∧ ((IntKind.i64.wrap ai) : Int) ≤ (au : Int) ∧
 ∃ (I0 : Nat → List Value → World → Prop) (bf : Nat), I0 bf [.slice none 0 0, .int .i64 (IntKind.i64.wrap ai), .int .i64 0] ar ∧ ∀ (b9 : Nat) (ae : World) (ad : Option Addr) (ac : Nat) (ab : Nat) (am : Int) (al : Int), I0 b9 [.slice ad ac ab, .int .i64 am, .int .i64 al] ae →
 bif decide (al < (((Int.toNat (IntKind.i64.wrap ai)) - 0 : Nat) : Int)) then (
 (if au = 0 then ak else Option.map (fun z : Addr => z.add (0 * 1)) ak).elim False fun bj =>
 0 ≤ (al : Int) ∧ (al : Int) < (((Int.toNat (IntKind.i64.wrap ai)) - 0 : Nat) : Int) ∧
 ∃ (a6 : Option Addr) (aa : Nat) (a8 : Nat), ae.cell? (bj.add (Int.toNat al * 1)) = some (.slice a6 aa a8) ∧
 Calls Try.prog 38 #[.slice a6 aa a8] ae fun b6 a7 => ∃ (af : Bool), b6 = .returned (.bool af) ∧
 bif !af then (
 R (.tuple #[.slice none 0 0, .int .i64 0]) a7) else (
 a6.elim False fun bg =>
 0 ≤ (15 : Int) ∧ (15 : Int) < (aa : Int) ∧
 ∃ (bd : Int), a7.cell? (bg.add (Int.toNat 15 * 1)) = some (.int .u8 bd) ∧
 bif decide (bd > 48) then (
 R (.tuple #[.slice none 0 0, .int .i64 0]) a7) else (
 a6.elim False fun bi =>
 0 ≤ (15 : Int) ∧ (15 : Int) < (aa : Int) ∧
 ∃ (aq : Int), a7.cell? (bi.add (Int.toNat 15 * 1)) = some (.int .u8 aq) ∧
 (0 : Int) ≤ ((IntKind.i64.wrap ((16 : Int) + (IntKind.i64.wrap aq))) : Int) ∧ ((IntKind.i64.wrap ((16 : Int) + (IntKind.i64.wrap aq))) : Int) ≤ (a8 : Int) ∧ (0 : Int) ≤ (16 : Int) ∧ (16 : Int) ≤ ((IntKind.i64.wrap ((16 : Int) + (IntKind.i64.wrap aq))) : Int) ∧
 ∃ (ao : Option Addr) (an : Nat) (az : Nat) (av : World), (Builtin.append_ #[23, 23] 23 #[.slice ad ac ab, .slice (if a8 = Int.toNat 16 then a6 else Option.map (fun z : Addr => z.add ((Int.toNat 16) * 1)) a6) ((Int.toNat (IntKind.i64.wrap ((16 : Int) + (IntKind.i64.wrap aq)))) - (Int.toNat 16)) (a8 - (Int.toNat 16))]).run Try.prog a7 = .ok (.slice ao an az) av ∧
 ∃ bc, bc < b9 ∧ I0 bc [.slice ao an az, .int .i64 am, .int .i64 (IntKind.i64.wrap (al + 1))] av))) else (
 Calls Try.prog 39 #[.slice ah aj ax, .int .i64 5] ae fun b3 b7 => ∃ (ag : Int), b3 = .returned (.int .u32 ag) ∧
 Calls Try.prog 9 #[.int .u32 b4, .int .u32 ag, .int .u32 b5, .slice ad ac ab] b7 fun b1 aw => ∃ (a3 : Option Addr) (a2 : Nat) (a1 : Nat) (a5 : Int), b1 = .returned (.tuple #[.slice a3 a2 a1, .int .i64 a5]) ∧
 bif a5 != 0 then (
 R (.tuple #[.slice none 0 0, .int .i64 0]) aw) else (
 (0 : Int) ≤ (am : Int) ∧ (am : Int) ≤ (au : Int) ∧
 Calls Try.prog 51 #[.slice a3 a2 a1, .slice (if au = 0 then ak else Option.map (fun z : Addr => z.add (0 * 1)) ak) ((Int.toNat am) - 0) (au - 0), .func (.func 52) #[] #[]] aw fun b2 ap => ∃ (a0 : Bool), b2 = .returned (.bool a0) ∧
 bif !a0 then (
 R (.tuple #[.slice none 0 0, .int .i64 0]) ap) else (
 R (.tuple #[.slice ad ac ab, .int .i64 am]) ap))))))

theorem journal_record.eq (l1a : Option Addr) (l1n : Nat) (l1c : Nat) (gen2 : Int) (seq3 : Int) (R : Value → World → Prop) (w : World) : mfunc Try.prog [(0, [0, 1, 2, 8, 36, 37], [(6, (.one .slice)), (7, (.one (.int .i64))), (38, (.one (.int .i64)))])] 37 [.slice l1a l1n l1c, .int .u32 gen2, .int .u32 seq3] R w = journal_record.M l1a l1n l1c gen2 seq3 R w := by kernel_rfl
theorem journal_record.ok (a3 : Option Addr) (a2 : Nat) (a4 : Nat) (a0 : Int) (a1 : Int) {R : Value → World → Prop} {w : World} (h : journal_record.M a3 a2 a4 a0 a1 R w) : Calls Try.prog 37 #[.slice a3 a2 a4, .int .u32 a0, .int .u32 a1] w fun e w' => ∃ v, e = .returned v ∧ R v w' :=
  mfunc_ok follows (H := [(0, [0, 1, 2, 8, 36, 37], [(6, (.one .slice)), (7, (.one (.int .i64))), (38, (.one (.int .i64)))])]) (args := [.slice a3 a2 a4, .int .u32 a0, .int .u32 a1]) (by rw [journal_record.eq]; exact h)

def journal_record.N (b9 : Option Addr) (an : Nat) (b3 : Nat) (b0 : Int) (b1 : Int) (R : Value → World → Prop) (w : World) : Prop :=
 ((an : Int) = 0 →
 R (.tuple #[.slice none 0 0, .int .i64 0]) w) ∧
 ((an : Int) ≠ 0 →
 ∃ a5 : Addr, b9 = some a5 ∧
 (0 : Int) < (an : Int) ∧
 ∃ (bb : Option Addr) (ba : Nat) (bc : Nat), w.cell? (a5.add (Int.toNat 0 * 1)) = some (.slice bb ba bc) ∧
 Calls Try.prog 38 #[.slice bb ba bc] w fun bf a6 => ∃ (am : Bool), bf = .returned (.bool am) ∧
 (am = false →
 R (.tuple #[.slice none 0 0, .int .i64 0]) a6) ∧
 (am = true →
 (0 : Int) < (an : Int) ∧
 ∃ (al : Option Addr) (ak : Nat) (au : Nat), a6.cell? (a5.add (Int.toNat 0 * 1)) = some (.slice al ak au) ∧
 ∃ bd : Addr, al = some bd ∧
 (14 : Int) < (ak : Int) ∧
 ∃ (a9 : Int), a6.cell? (bd.add (Int.toNat 14 * 1)) = some (.int .u8 a9) ∧
 (-9223372036854775808 : Int) ≤ a9 ∧ a9 < 9223372036854775808 ∧
 (a9 > (an : Int) →
 R (.tuple #[.slice none 0 0, .int .i64 0]) a6) ∧
 (a9 ≤ (an : Int) →
 (0 : Int) ≤ (a9 : Int) ∧ (a9 : Int) ≤ (b3 : Int) ∧ 
 ∃ (I0 : Nat → List Value → World → Prop) (bg : Nat), I0 bg [.slice none 0 0, .int .i64 a9, .int .i64 0] a6 ∧ ∀ (be : Nat) (ab : World) (ah : Option Addr) (ag : Nat) (ac : Nat) (ao : Int) (ad : Int), I0 be [.slice ah ag ac, .int .i64 ao, .int .i64 ad] ab →
 (ad < ((Int.toNat a9) : Int) →
 0 ≤ (ad : Int) ∧ (ad : Int) < ((Int.toNat a9) : Int) ∧
 ∃ (af : Option Addr) (ai : Nat) (a8 : Nat), ab.cell? (a5.add (Int.toNat ad * 1)) = some (.slice af ai a8) ∧
 Calls Try.prog 38 #[.slice af ai a8] ab fun b2 aa => ∃ (a7 : Bool), b2 = .returned (.bool a7) ∧
 (a7 = false →
 R (.tuple #[.slice none 0 0, .int .i64 0]) aa) ∧
 (a7 = true →
 ∃ b7 : Addr, af = some b7 ∧
 (15 : Int) < (ai : Int) ∧
 ∃ (b5 : Int), aa.cell? (b7.add (Int.toNat 15 * 1)) = some (.int .u8 b5) ∧
 (b5 > 48 →
 R (.tuple #[.slice none 0 0, .int .i64 0]) aa) ∧
 (b5 ≤ 48 →
 (15 : Int) < (ai : Int) ∧
 ∃ (ae : Int), aa.cell? (b7.add (Int.toNat 15 * 1)) = some (.int .u8 ae) ∧
 (-9223372036854775808 : Int) ≤ ae ∧ ae < 9223372036854775808 ∧
 (-9223372036854775808 : Int) ≤ ((16 : Int) + ae) ∧ ((16 : Int) + ae) < 9223372036854775808 ∧
 (0 : Int) ≤ (((16 : Int) + ae) : Int) ∧ (((16 : Int) + ae) : Int) ≤ (a8 : Int) ∧ (16 : Int) ≤ (((16 : Int) + ae) : Int) ∧ 
 ∃ (av : Option Addr) (ax : Nat) (aq : Nat) (ap : World), (Builtin.append_ #[23, 23] 23 #[.slice ah ag ac, .slice (cutA af a8 16 1) ((Int.toNat ((16 : Int) + ae)) - 16) (a8 - 16)]).run Try.prog aa = .ok (.slice av ax aq) ap ∧
 (-9223372036854775808 : Int) ≤ (ad + 1) ∧ (ad + 1) < 9223372036854775808 ∧
 ∃ b8, b8 < be ∧ I0 b8 [.slice av ax aq, .int .i64 ao, .int .i64 (ad + 1)] ap))) ∧
 (((Int.toNat a9) : Int) ≤ ad →
 Calls Try.prog 39 #[.slice al ak au, .int .i64 5] ab fun az ay => ∃ (aj : Int), az = .returned (.int .u32 aj) ∧
 Calls Try.prog 9 #[.int .u32 b0, .int .u32 aj, .int .u32 b1, .slice ah ag ac] ay fun b4 aw => ∃ (a4 : Option Addr) (a3 : Nat) (a2 : Nat) (a1 : Int), b4 = .returned (.tuple #[.slice a4 a3 a2, .int .i64 a1]) ∧
 (a1 ≠ 0 →
 R (.tuple #[.slice none 0 0, .int .i64 0]) aw) ∧
 (a1 = 0 →
 (0 : Int) ≤ (ao : Int) ∧ (ao : Int) ≤ (b3 : Int) ∧ 
 Calls Try.prog 51 #[.slice a4 a3 a2, .slice b9 (Int.toNat ao) b3, .func (.func 52) #[] #[]] aw fun b6 ar => ∃ (a0 : Bool), b6 = .returned (.bool a0) ∧
 (a0 = false →
 R (.tuple #[.slice none 0 0, .int .i64 0]) ar) ∧
 (a0 = true →
 R (.tuple #[.slice ah ag ac, .int .i64 ao]) ar))))))

theorem journal_record.up (bc : Option Addr) (bb : Nat) (bd : Nat) (ac : Int) (ad : Int) {R : Value → World → Prop} {w : World} (h : journal_record.N bc bb bd ac ad R w) : journal_record.M bc bb bd ac ad R w := by
  unfold journal_record.M
  unfold journal_record.N at h
  refine bif_of (fun c4 => ?_) (fun c4 => ?_)
  · have h := h.1 (beq_t c4)
    exact h
  · have h := h.2 (beq_f c4)
    obtain ⟨a5, ak, h⟩ := h
    refine elim_some ak ?_
    obtain ⟨a2, h⟩ := h
    refine ⟨by decide, a2, ?_⟩
    obtain ⟨bj, bi, br, bm, h⟩ := h
    refine ⟨bj, bi, br, bm, ?_⟩
    refine h.mono fun c2 bg h => ?_
    obtain ⟨b4, he, h⟩ := h
    refine ⟨b4, he, ?_⟩
    refine bif_of (fun az => ?_) (fun az => ?_)
    · have h := h.1 (not_t az)
      exact h
    · have h := h.2 (not_f az)
      refine elim_some ak ?_
      obtain ⟨a2, h⟩ := h
      refine ⟨by decide, a2, ?_⟩
      obtain ⟨b1, ah, b2, am, h⟩ := h
      refine ⟨b1, ah, b2, am, ?_⟩
      obtain ⟨c1, an, h⟩ := h
      refine elim_some an ?_
      obtain ⟨a2, h⟩ := h
      refine ⟨by decide, a2, ?_⟩
      obtain ⟨bp, ai, h⟩ := h
      refine ⟨bp, ai, ?_⟩
      obtain ⟨a7, a8, h⟩ := h
      try rw [w64 a7 a8]
      refine bif_of (fun aq => ?_) (fun aq => ?_)
      · have h := h.1 (of_decide_eq_true aq)
        exact h
      · have h := h.2 (Int.not_lt.1 (of_decide_eq_false aq))
        obtain ⟨aa, a9, h⟩ := h
        refine ⟨aa, a9, ?_⟩
        try rw [cut_zero]
        obtain ⟨I0, bo, h0, h⟩ := h
        refine ⟨I0, bo, h0, fun bz aj b3 b0 ao bf bk hI => ?_⟩
        have h := h bz aj b3 b0 ao bf bk hI
        refine bif_of (fun ar => ?_) (fun ar => ?_)
        · have h := h.1 (of_decide_eq_true ar)
          refine elim_some ak ?_
          obtain ⟨a9, a2, h⟩ := h
          refine ⟨a9, a2, ?_⟩
          obtain ⟨aw, b8, ax, ag, h⟩ := h
          refine ⟨aw, b8, ax, ag, ?_⟩
          refine h.mono fun bn bs h => ?_
          obtain ⟨ab, he, h⟩ := h
          refine ⟨ab, he, ?_⟩
          refine bif_of (fun au => ?_) (fun au => ?_)
          · have h := h.1 (not_t au)
            exact h
          · have h := h.2 (not_f au)
            obtain ⟨c3, ae, h⟩ := h
            refine elim_some ae ?_
            obtain ⟨a2, h⟩ := h
            refine ⟨by decide, a2, ?_⟩
            obtain ⟨bv, b7, h⟩ := h
            refine ⟨bv, b7, ?_⟩
            refine bif_of (fun al => ?_) (fun al => ?_)
            · have h := h.1 (of_decide_eq_true al)
              exact h
            · have h := h.2 (Int.not_lt.1 (of_decide_eq_false al))
              refine elim_some ae ?_
              obtain ⟨a2, h⟩ := h
              refine ⟨by decide, a2, ?_⟩
              obtain ⟨bl, b9, h⟩ := h
              refine ⟨bl, b9, ?_⟩
              obtain ⟨a7, a8, h⟩ := h
              try rw [w64 a7 a8]
              obtain ⟨a7, a8, h⟩ := h
              try rw [w64 a7 a8]
              obtain ⟨aa, a9, bx, h⟩ := h
              refine ⟨aa, a9, by decide, bx, ?_⟩
              obtain ⟨b5, b6, ay, av, hr, h⟩ := h
              refine ⟨b5, b6, ay, av, hr, ?_⟩
              obtain ⟨a7, a8, h⟩ := h
              try rw [w64 a7 a8]
              obtain ⟨be, hk, h⟩ := h
              exact ⟨be, hk, h⟩
        · have h := h.2 (Int.not_lt.1 (of_decide_eq_false ar))
          refine h.mono fun bh c0 h => ?_
          obtain ⟨af, he, h⟩ := h
          refine ⟨af, he, ?_⟩
          refine h.mono fun bt bu h => ?_
          obtain ⟨a4, a3, a1, a6, he, h⟩ := h
          refine ⟨a4, a3, a1, a6, he, ?_⟩
          refine bif_of (fun ba => ?_) (fun ba => ?_)
          · have h := h.1 (bne_t ba)
            exact h
          · have h := h.2 (bne_f ba)
            obtain ⟨aa, a9, h⟩ := h
            refine ⟨aa, a9, ?_⟩
            try rw [cut_zero]
            refine h.mono fun bw bq h => ?_
            obtain ⟨a0, he, h⟩ := h
            refine ⟨a0, he, ?_⟩
            refine bif_of (fun ap => ?_) (fun ap => ?_)
            · have h := h.1 (not_t ap)
              exact h
            · have h := h.2 (not_f ap)
              exact h

theorem journal_record.go (a3 : Option Addr) (a2 : Nat) (a4 : Nat) (a0 : Int) (a1 : Int) {R : Value → World → Prop} {w : World} (h : journal_record.N a3 a2 a4 a0 a1 R w) : Calls Try.prog 37 #[.slice a3 a2 a4, .int .u32 a0, .int .u32 a1] w fun e w' => ∃ v, e = .returned v ∧ R v w' := journal_record.ok a3 a2 a4 a0 a1 (journal_record.up a3 a2 a4 a0 a1 h)
/-- journal.Scan -/
def journal_Scan.M (ar : Option Addr) (ap : Nat) (b3 : Nat) (am : Int) (R : Value → World → Prop) (w : World) : Prop :=
 ∃ (I0 : Nat → List Value → World → Prop) (m5 : Nat), I0 m5 [.slice none 0 0, .int .i64 0] w ∧ ∀ (m6 : Nat) (b1 : World) (a4 : Option Addr) (a0 : Nat) (a3 : Nat) (a2 : Int), I0 m6 [.slice a4 a0 a3, .int .i64 a2] b1 →
 (0 : Int) ≤ (a2 : Int) ∧ (a2 : Int) ≤ (ap : Int) ∧
 Calls Try.prog 37 #[.slice (if b3 = Int.toNat a2 then ar else Option.map (fun z : Addr => z.add ((Int.toNat a2) * 1)) ar) (ap - (Int.toNat a2)) (b3 - (Int.toNat a2)), .int .u32 am, .int .u32 (IntKind.u32.wrap (a0 : Int))] b1 fun aw ah => ∃ (a6 : Option Addr) (a8 : Nat) (a7 : Nat) (a5 : Int), aw = .returned (.tuple #[.slice a6 a8 a7, .int .i64 a5]) ∧
 bif a5 == 0 then (
 ∃ (I2 : Nat → List Value → World → Prop) (b6 : Nat), I2 b6 [.int .u32 0, .int .i64 0] ah ∧ ∀ (aq : Nat) (ab : World) (a1 : Int) (ag : Int), I2 aq [.int .u32 a1, .int .i64 ag] ab →
 bif decide (ag < (ap : Int)) then (
 ar.elim False fun b7 =>
 0 ≤ (ag : Int) ∧ (ag : Int) < (ap : Int) ∧
 ∃ (ac : Option Addr) (ad : Nat) (aa : Nat), ab.cell? (b7.add (Int.toNat ag * 1)) = some (.slice ac ad aa) ∧
 Calls Try.prog 38 #[.slice ac ad aa] ab fun ay ai => ∃ (af : Bool), ay = .returned (.bool af) ∧
 bif af then (
 Calls Try.prog 39 #[.slice ac ad aa, .int .i64 1] ai fun av an => ∃ (ae : Int), av = .returned (.int .u32 ae) ∧
 bif ae == am then (
 Calls Try.prog 39 #[.slice ac ad aa, .int .i64 5] an fun az au => ∃ (a9 : Int), az = .returned (.int .u32 a9) ∧
 ∃ b0, b0 < aq ∧ I2 b0 [.int .u32 (if (a9 : Int) > a1 then a9 else a1), .int .i64 (IntKind.i64.wrap (ag + 1))] au) else (
 ∃ b2, b2 < aq ∧ I2 b2 [.int .u32 a1, .int .i64 (IntKind.i64.wrap (ag + 1))] an)) else (
 ∃ b4, b4 < aq ∧ I2 b4 [.int .u32 a1, .int .i64 (IntKind.i64.wrap (ag + 1))] ai)) else (
 R (.tuple #[.slice a4 a0 a3, .int .i64 a2, .int .u32 a1]) ab)) else (
 thenW (ah.alloc (.cells #[.slice a6 a8 a7] 23)) fun ax =>
 ∃ (ak : Option Addr) (aj : Nat) (al : Nat) (ao : World), (Builtin.append_ #[25, 25] 25 #[.slice a4 a0 a3, .slice (some (blk ah.heap.size)) 1 1]).run Try.prog ax = .ok (.slice ak aj al) ao ∧
 ∃ b5, b5 < m6 ∧ I0 b5 [.slice ak aj al, .int .i64 (IntKind.i64.wrap (a2 + a5))] ao)

theorem journal_Scan.eq (l1a : Option Addr) (l1n : Nat) (l1c : Nat) (gen2 : Int) (R : Value → World → Prop) (w : World) : mfunc Try.prog [(0, [0, 1, 6], [(4, (.one .slice)), (5, (.one (.int .i64)))]), (2, [1, 4, 5, 32, 33], [(6, (.one (.int .u32))), (34, (.one (.int .i64)))])] 16 [.slice l1a l1n l1c, .int .u32 gen2] R w = journal_Scan.M l1a l1n l1c gen2 R w := by kernel_rfl
theorem journal_Scan.ok (a1 : Option Addr) (a2 : Nat) (a3 : Nat) (a0 : Int) {R : Value → World → Prop} {w : World} (h : journal_Scan.M a1 a2 a3 a0 R w) : Calls Try.prog 16 #[.slice a1 a2 a3, .int .u32 a0] w fun e w' => ∃ v, e = .returned v ∧ R v w' :=
  mfunc_ok follows (H := [(0, [0, 1, 6], [(4, (.one .slice)), (5, (.one (.int .i64)))]), (2, [1, 4, 5, 32, 33], [(6, (.one (.int .u32))), (34, (.one (.int .i64)))])]) (args := [.slice a1 a2 a3, .int .u32 a0]) (by rw [journal_Scan.eq]; exact h)

def journal_Scan.N (b1 : Option Addr) (ak : Nat) (b6 : Nat) (aj : Int) (R : Value → World → Prop) (w : World) : Prop :=
 ∃ (I0 : Nat → List Value → World → Prop) (m5 : Nat), I0 m5 [.slice none 0 0, .int .i64 0] w ∧ ∀ (m6 : Nat) (b5 : World) (a5 : Option Addr) (a1 : Nat) (a4 : Nat) (a3 : Int), I0 m6 [.slice a5 a1 a4, .int .i64 a3] b5 →
 (0 : Int) ≤ (a3 : Int) ∧ (a3 : Int) ≤ (ak : Int) ∧ 
 Calls Try.prog 37 #[.slice (cutA b1 b6 (Int.toNat a3) 1) (ak - (Int.toNat a3)) (b6 - (Int.toNat a3)), .int .u32 aj, .int .u32 (IntKind.u32.wrap (a1 : Int))] b5 fun ax ai => ∃ (a6 : Option Addr) (a8 : Nat) (a7 : Nat) (a0 : Int), ax = .returned (.tuple #[.slice a6 a8 a7, .int .i64 a0]) ∧
 (a0 = 0 →
 ∃ (I2 : Nat → List Value → World → Prop) (b8 : Nat), I2 b8 [.int .u32 0, .int .i64 0] ai ∧ ∀ (au : Nat) (af : World) (a2 : Int) (a9 : Int), I2 au [.int .u32 a2, .int .i64 a9] af →
 (a9 < (ak : Int) →
 ∃ b4 : Addr, b1 = some b4 ∧
 0 ≤ (a9 : Int) ∧ (a9 : Int) < (ak : Int) ∧
 ∃ (ad : Option Addr) (ag : Nat) (ae : Nat), af.cell? (b4.add (Int.toNat a9 * 1)) = some (.slice ad ag ae) ∧
 Calls Try.prog 38 #[.slice ad ag ae] af fun av ap => ∃ (ab : Bool), av = .returned (.bool ab) ∧
 (ab = true →
 Calls Try.prog 39 #[.slice ad ag ae, .int .i64 1] ap fun ay al => ∃ (ac : Int), ay = .returned (.int .u32 ac) ∧
 (ac = aj →
 Calls Try.prog 39 #[.slice ad ag ae, .int .i64 5] al fun az aw => ∃ (aa : Int), az = .returned (.int .u32 aa) ∧
 (-9223372036854775808 : Int) ≤ (a9 + 1) ∧ (a9 + 1) < 9223372036854775808 ∧
 ∃ b2, b2 < au ∧ I2 b2 [.int .u32 (if (aa : Int) > a2 then aa else a2), .int .i64 (a9 + 1)] aw) ∧
 (ac ≠ aj →
 (-9223372036854775808 : Int) ≤ (a9 + 1) ∧ (a9 + 1) < 9223372036854775808 ∧
 ∃ b7, b7 < au ∧ I2 b7 [.int .u32 a2, .int .i64 (a9 + 1)] al)) ∧
 (ab = false →
 (-9223372036854775808 : Int) ≤ (a9 + 1) ∧ (a9 + 1) < 9223372036854775808 ∧
 ∃ b3, b3 < au ∧ I2 b3 [.int .u32 a2, .int .i64 (a9 + 1)] ap)) ∧
 ((ak : Int) ≤ a9 →
 R (.tuple #[.slice a5 a1 a4, .int .i64 a3, .int .u32 a2]) af)) ∧
 (a0 ≠ 0 →
 ∀ (ah : World) (ar : Nat), Ext no ai ah → Blk ah ar 23 [.slice a6 a8 a7] → ai.heap.size ≤ ar → ar < ah.heap.size →
 ∃ (am : Option Addr) (an : Nat) (aq : Nat) (ao : World), (Builtin.append_ #[25, 25] 25 #[.slice a5 a1 a4, .slice (some (blk ar)) 1 1]).run Try.prog ah = .ok (.slice am an aq) ao ∧
 (-9223372036854775808 : Int) ≤ (a3 + a0) ∧ (a3 + a0) < 9223372036854775808 ∧
 ∃ b0, b0 < m6 ∧ I0 b0 [.slice am an aq, .int .i64 (a3 + a0)] ao)

theorem journal_Scan.up (b0 : Option Addr) (az : Nat) (b1 : Nat) (ab : Int) {R : Value → World → Prop} {w : World} (h : journal_Scan.N b0 az b1 ab R w) : journal_Scan.M b0 az b1 ab R w := by
  unfold journal_Scan.M
  unfold journal_Scan.N at h
  obtain ⟨I0, m5, h0, h⟩ := h
  refine ⟨I0, m5, h0, fun m6 bh a2 a1 a0 ae hI => ?_⟩
  have h := h m6 bh a2 a1 a0 ae hI
  obtain ⟨b4, au, h⟩ := h
  refine ⟨b4, au, ?_⟩
  refine h.mono fun ba a8 h => ?_
  obtain ⟨a3, a5, a4, a6, he, h⟩ := h
  refine ⟨a3, a5, a4, a6, he, ?_⟩
  refine bif_of (fun aw => ?_) (fun aw => ?_)
  · have h := h.1 (beq_t aw)
    obtain ⟨I2, bc, h0, h⟩ := h
    refine ⟨I2, bc, h0, fun b6 ap a7 bf hI => ?_⟩
    have h := h b6 ap a7 bf hI
    refine bif_of (fun ah => ?_) (fun ah => ?_)
    · have h := h.1 (of_decide_eq_true ah)
      obtain ⟨bj, av, h⟩ := h
      refine elim_some av ?_
      obtain ⟨au, bb, h⟩ := h
      refine ⟨au, bb, ?_⟩
      obtain ⟨aj, aq, an, am, h⟩ := h
      refine ⟨aj, aq, an, am, ?_⟩
      refine h.mono fun b8 be h => ?_
      obtain ⟨ad, he, h⟩ := h
      refine ⟨ad, he, ?_⟩
      refine bif_of (fun ak => ?_) (fun ak => ?_)
      · have h := h.1 ak
        refine h.mono fun bd b3 h => ?_
        obtain ⟨af, he, h⟩ := h
        refine ⟨af, he, ?_⟩
        refine bif_of (fun ay => ?_) (fun ay => ?_)
        · have h := h.1 (beq_t ay)
          refine h.mono fun bg b9 h => ?_
          obtain ⟨ac, he, h⟩ := h
          refine ⟨ac, he, ?_⟩
          obtain ⟨a9, aa, h⟩ := h
          try rw [w64 a9 aa]
          obtain ⟨b5, hk, h⟩ := h
          exact ⟨b5, hk, h⟩
        · have h := h.2 (beq_f ay)
          obtain ⟨a9, aa, h⟩ := h
          try rw [w64 a9 aa]
          obtain ⟨bi, hk, h⟩ := h
          exact ⟨bi, hk, h⟩
      · have h := h.2 ak
        obtain ⟨a9, aa, h⟩ := h
        try rw [w64 a9 aa]
        obtain ⟨b7, hk, h⟩ := h
        exact ⟨b7, hk, h⟩
    · have h := h.2 (Int.not_lt.1 (of_decide_eq_false ah))
      exact h
  · have h := h.2 (beq_f aw)
    refine thenW_in fun ar ax => ?_
    have h := h ar a8.heap.size ((Ext.refl no a8).x_alloc ax) (Blk.of_new ax) ((Ext.refl no a8)).size (size_lt_alloc ax)
    obtain ⟨ag, ai, ao, al, hr, h⟩ := h
    refine ⟨ag, ai, ao, al, hr, ?_⟩
    obtain ⟨a9, aa, h⟩ := h
    try rw [w64 a9 aa]
    obtain ⟨b2, hk, h⟩ := h
    exact ⟨b2, hk, h⟩

theorem journal_Scan.go (a1 : Option Addr) (a2 : Nat) (a3 : Nat) (a0 : Int) {R : Value → World → Prop} {w : World} (h : journal_Scan.N a1 a2 a3 a0 R w) : Calls Try.prog 16 #[.slice a1 a2 a3, .int .u32 a0] w fun e w' => ∃ v, e = .returned v ∧ R v w' := journal_Scan.ok a1 a2 a3 a0 (journal_Scan.up a1 a2 a3 a0 h)
/-- cachetteref10.stands -/
def cachetteref10_stands.M (aj : Option Addr) (ac : Nat) (c9 : Nat) (bg : Int) (bh : Int) (R : Value → World → Prop) (w : World) : Prop :=
 bif (ac : Int) == 0 then (
 R (.tuple #[.slice none 0 0, .int .i64 0]) w) else (
 aj.elim False fun a4 =>
 0 ≤ (0 : Int) ∧ (0 : Int) < (ac : Int) ∧
 ∃ (bw : Option Addr) (bo : Nat) (c3 : Nat), w.cell? (a4.add (Int.toNat 0 * 1)) = some (.slice bw bo c3) ∧
 bif (bo : Int) != 64 then (
 R (.tuple #[.slice none 0 0, .int .i64 0]) w) else (
 thenW (w.drew) fun bb =>
 aj.elim False fun a7 =>
 0 ≤ (0 : Int) ∧ (0 : Int) < (ac : Int) ∧
 ∃ (bi : Option Addr) (c5 : Nat) (bc : Nat), bb.cell? (a7.add (Int.toNat 0 * 1)) = some (.slice bi c5 bc) ∧
 (0 : Int) ≤ (9 : Int) ∧ (9 : Int) ≤ (bc : Int) ∧ (0 : Int) ≤ (5 : Int) ∧ (5 : Int) ≤ (9 : Int) ∧
 aj.elim False fun a9 =>
 0 ≤ (0 : Int) ∧ (0 : Int) < (ac : Int) ∧
 ∃ (al : Option Addr) (ao : Nat) (b8 : Nat), bb.cell? (a9.add (Int.toNat 0 * 1)) = some (.slice al ao b8) ∧
 al.elim False fun bq =>
 0 ≤ (14 : Int) ∧ (14 : Int) < (ao : Int) ∧
 ∃ (ak : Int), bb.cell? (bq.add (Int.toNat 14 * 1)) = some (.int .u8 ak) ∧
 Calls Try.prog 41 #[.slice (if bc = Int.toNat 5 then bi else Option.map (fun z : Addr => z.add ((Int.toNat 5) * 1)) bi) ((Int.toNat 9) - (Int.toNat 5)) (bc - (Int.toNat 5))] bb fun bm a8 => ∃ (a1 : Int), bm = .returned (.int .u32 a1) ∧
 a8.cell? (bq.add (Int.toNat 14 * 1)) = some (.int .u8 ak) ∧
 a8.cell? (a9.add (Int.toNat 0 * 1)) = some (.slice al ao b8) ∧
 bif a1 == 0 then (
 R (.tuple #[.slice none 0 0, .int .i64 0]) a8) else (
 bif (IntKind.i64.wrap ak) == 0 then (
 R (.tuple #[.slice none 0 0, .int .i64 0]) a8) else (
 bif decide ((IntKind.i64.wrap ak) > (ac : Int)) then (
 R (.tuple #[.slice none 0 0, .int .i64 0]) a8) else (
 ∃ (I0 : Nat → List Value → World → Prop) (c2 : Nat), I0 c2 [.slice none 0 0, .int .i64 0] a8 ∧ ∀ (br : Nat) (a3 : World) (ah : Option Addr) (af : Nat) (ai : Nat) (a5 : Int), I0 br [.slice ah af ai, .int .i64 a5] a3 →
 bif decide (a5 < (IntKind.i64.wrap ak)) then (
 aj.elim False fun c8 =>
 0 ≤ (a5 : Int) ∧ (a5 : Int) < (ac : Int) ∧
 ∃ (be : Option Addr) (ay : Nat) (bd : Nat), a3.cell? (c8.add (Int.toNat a5 * 1)) = some (.slice be ay bd) ∧
 bif (ay : Int) != 64 then (
 R (.tuple #[.slice none 0 0, .int .i64 0]) a3) else (
 aj.elim False fun c1 =>
 0 ≤ (a5 : Int) ∧ (a5 : Int) < (ac : Int) ∧
 ∃ (b3 : Option Addr) (b6 : Nat) (bj : Nat), a3.cell? (c1.add (Int.toNat a5 * 1)) = some (.slice b3 b6 bj) ∧
 b3.elim False fun c0 =>
 0 ≤ (15 : Int) ∧ (15 : Int) < (b6 : Int) ∧
 ∃ (bu : Int), a3.cell? (c0.add (Int.toNat 15 * 1)) = some (.int .u8 bu) ∧
 bif decide (bu > 48) then (
 R (.tuple #[.slice none 0 0, .int .i64 0]) a3) else (
 thenW (a3.drew) fun ad =>
 aj.elim False fun c7 =>
 0 ≤ (a5 : Int) ∧ (a5 : Int) < (ac : Int) ∧
 ∃ (an : Option Addr) (bk : Nat) (ag : Nat), ad.cell? (c7.add (Int.toNat a5 * 1)) = some (.slice an bk ag) ∧
 aj.elim False fun bv =>
 0 ≤ (a5 : Int) ∧ (a5 : Int) < (ac : Int) ∧
 ∃ (ar : Option Addr) (av : Nat) (bl : Nat), ad.cell? (bv.add (Int.toNat a5 * 1)) = some (.slice ar av bl) ∧
 ar.elim False fun c4 =>
 0 ≤ (15 : Int) ∧ (15 : Int) < (av : Int) ∧
 ∃ (b7 : Int), ad.cell? (c4.add (Int.toNat 15 * 1)) = some (.int .u8 b7) ∧
 (0 : Int) ≤ ((IntKind.i64.wrap ((16 : Int) + (IntKind.i64.wrap b7))) : Int) ∧ ((IntKind.i64.wrap ((16 : Int) + (IntKind.i64.wrap b7))) : Int) ≤ (ag : Int) ∧ (0 : Int) ≤ (16 : Int) ∧ (16 : Int) ≤ ((IntKind.i64.wrap ((16 : Int) + (IntKind.i64.wrap b7))) : Int) ∧
 ∃ (au : Option Addr) (b2 : Nat) (b9 : Nat) (az : World), (Builtin.append_ #[23, 23] 23 #[.slice ah af ai, .slice (if ag = Int.toNat 16 then an else Option.map (fun z : Addr => z.add ((Int.toNat 16) * 1)) an) ((Int.toNat (IntKind.i64.wrap ((16 : Int) + (IntKind.i64.wrap b7)))) - (Int.toNat 16)) (ag - (Int.toNat 16))]).run Try.prog ad = .ok (.slice au b2 b9) az ∧
 ∃ bs, bs < br ∧ I0 bs [.slice au b2 b9, .int .i64 (IntKind.i64.wrap (a5 + 1))] az))) else (
 Calls Try.prog 10 #[.int .u32 bg, .int .u32 a1, .int .u32 bh, .slice ah af ai] a3 fun bf am => ∃ (a2 : Option Addr) (a0 : Nat) (ab : Nat) (a6 : Int), bf = .returned (.tuple #[.slice a2 a0 ab, .int .i64 a6]) ∧
 bif a6 != 0 then (
 R (.tuple #[.slice none 0 0, .int .i64 0]) am) else (
 bif (a0 : Int) != (IntKind.i64.wrap ak) then (
 R (.tuple #[.slice none 0 0, .int .i64 0]) am) else (
 ∃ (I2 : Nat → List Value → World → Prop) (bx : Nat), I2 bx [.int .i64 0] am ∧ ∀ (bp : Nat) (ap : World) (ae : Int), I2 bp [.int .i64 ae] ap →
 bif decide (ae < (IntKind.i64.wrap ak)) then (
 thenW (ap.drew) fun aq =>
 a2.elim False fun c6 =>
 0 ≤ (ae : Int) ∧ (ae : Int) < (a0 : Int) ∧
 ∃ (b0 : Option Addr) (aw : Nat) (b1 : Nat), aq.cell? (c6.add (Int.toNat ae * 1)) = some (.slice b0 aw b1) ∧
 aj.elim False fun bz =>
 0 ≤ (ae : Int) ∧ (ae : Int) < (ac : Int) ∧
 ∃ (b4 : Option Addr) (b5 : Nat) (ba : Nat), aq.cell? (bz.add (Int.toNat ae * 1)) = some (.slice b4 b5 ba) ∧
 Calls Try.prog 27 #[.slice b0 aw b1, .slice b4 b5 ba] aq fun bn ax => ∃ (aa : Bool), bn = .returned (.bool aa) ∧
 bif !aa then (
 R (.tuple #[.slice none 0 0, .int .i64 0]) ax) else (
 ∃ bt, bt < bp ∧ I2 bt [.int .i64 (IntKind.i64.wrap (ae + 1))] ax)) else (
 R (.tuple #[.slice ah af ai, .int .i64 (IntKind.i64.wrap ak)]) ap)))))))))

theorem cachetteref10_stands.eq (l1a : Option Addr) (l1n : Nat) (l1c : Nat) (gen2 : Int) (seq3 : Int) (R : Value → World → Prop) (w : World) : mfunc Try.prog [(0, [0, 1, 2, 8, 9], [(10, (.one .slice)), (11, (.one (.int .i64)))]), (2, [0, 9, 10, 12], [(14, (.one (.int .i64)))])] 40 [.slice l1a l1n l1c, .int .u32 gen2, .int .u32 seq3] R w = cachetteref10_stands.M l1a l1n l1c gen2 seq3 R w := by kernel_rfl
theorem cachetteref10_stands.ok (a3 : Option Addr) (a2 : Nat) (a4 : Nat) (a0 : Int) (a1 : Int) {R : Value → World → Prop} {w : World} (h : cachetteref10_stands.M a3 a2 a4 a0 a1 R w) : Calls Try.prog 40 #[.slice a3 a2 a4, .int .u32 a0, .int .u32 a1] w fun e w' => ∃ v, e = .returned v ∧ R v w' :=
  mfunc_ok follows (H := [(0, [0, 1, 2, 8, 9], [(10, (.one .slice)), (11, (.one (.int .i64)))]), (2, [0, 9, 10, 12], [(14, (.one (.int .i64)))])]) (args := [.slice a3 a2 a4, .int .u32 a0, .int .u32 a1]) (by rw [cachetteref10_stands.eq]; exact h)

def cachetteref10_stands.N (bx : Option Addr) (aa : Nat) (c2 : Nat) (bd : Int) (be : Int) (R : Value → World → Prop) (w : World) : Prop :=
 ((aa : Int) = 0 →
 R (.tuple #[.slice none 0 0, .int .i64 0]) w) ∧
 ((aa : Int) ≠ 0 →
 ∃ a5 : Addr, bx = some a5 ∧
 (0 : Int) < (aa : Int) ∧
 ∃ (bz : Option Addr) (bb : Nat) (c1 : Nat), w.cell? (a5.add (Int.toNat 0 * 1)) = some (.slice bz bb c1) ∧
 ((bb : Int) ≠ 64 →
 R (.tuple #[.slice none 0 0, .int .i64 0]) w) ∧
 ((bb : Int) = 64 →
 (0 : Int) < (aa : Int) ∧
 ∃ (b1 : Option Addr) (bg : Nat) (ai : Nat), w.cell? (a5.add (Int.toNat 0 * 1)) = some (.slice b1 bg ai) ∧
 (9 : Int) ≤ (ai : Int) ∧ 
 (0 : Int) < (aa : Int) ∧
 ∃ (an : Option Addr) (ak : Nat) (b0 : Nat), w.cell? (a5.add (Int.toNat 0 * 1)) = some (.slice an ak b0) ∧
 ∃ bl : Addr, an = some bl ∧
 (14 : Int) < (ak : Int) ∧
 ∃ (a8 : Int), w.cell? (bl.add (Int.toNat 14 * 1)) = some (.int .u8 a8) ∧
 (-9223372036854775808 : Int) ≤ a8 ∧ a8 < 9223372036854775808 ∧
 ∀ (br : World), Ext no w br →
 Calls Try.prog 41 #[.slice (cutA b1 ai 5 1) (9 - 5) (ai - 5)] br fun bf a9 => ∃ (a1 : Int), bf = .returned (.int .u32 a1) ∧
 a9.cell? (bl.add (Int.toNat 14 * 1)) = some (.int .u8 a8) ∧
 a9.cell? (a5.add (Int.toNat 0 * 1)) = some (.slice an ak b0) ∧
 (a1 = 0 →
 R (.tuple #[.slice none 0 0, .int .i64 0]) a9) ∧
 (a1 ≠ 0 →
 (a8 = 0 →
 R (.tuple #[.slice none 0 0, .int .i64 0]) a9) ∧
 (a8 ≠ 0 →
 (a8 > (aa : Int) →
 R (.tuple #[.slice none 0 0, .int .i64 0]) a9) ∧
 (a8 ≤ (aa : Int) →
 ∃ (I0 : Nat → List Value → World → Prop) (c0 : Nat), I0 c0 [.slice none 0 0, .int .i64 0] a9 ∧ ∀ (bo : Nat) (a2 : World) (ag : Option Addr) (ae : Nat) (aj : Nat) (a4 : Int), I0 bo [.slice ag ae aj, .int .i64 a4] a2 →
 (a4 < a8 →
 0 ≤ (a4 : Int) ∧ (a4 : Int) < (aa : Int) ∧
 ∃ (bh : Option Addr) (am : Nat) (bi : Nat), a2.cell? (a5.add (Int.toNat a4 * 1)) = some (.slice bh am bi) ∧
 ((am : Int) ≠ 64 →
 R (.tuple #[.slice none 0 0, .int .i64 0]) a2) ∧
 ((am : Int) = 64 →
 0 ≤ (a4 : Int) ∧ (a4 : Int) < (aa : Int) ∧
 ∃ (b9 : Option Addr) (b8 : Nat) (bk : Nat), a2.cell? (a5.add (Int.toNat a4 * 1)) = some (.slice b9 b8 bk) ∧
 ∃ bv : Addr, b9 = some bv ∧
 (15 : Int) < (b8 : Int) ∧
 ∃ (ba : Int), a2.cell? (bv.add (Int.toNat 15 * 1)) = some (.int .u8 ba) ∧
 (ba > 48 →
 R (.tuple #[.slice none 0 0, .int .i64 0]) a2) ∧
 (ba ≤ 48 →
 0 ≤ (a4 : Int) ∧ (a4 : Int) < (aa : Int) ∧
 ∃ (ao : Option Addr) (bc : Nat) (ah : Nat), a2.cell? (a5.add (Int.toNat a4 * 1)) = some (.slice ao bc ah) ∧
 0 ≤ (a4 : Int) ∧ (a4 : Int) < (aa : Int) ∧
 ∃ (az : Option Addr) (b7 : Nat) (bn : Nat), a2.cell? (a5.add (Int.toNat a4 * 1)) = some (.slice az b7 bn) ∧
 ∃ bq : Addr, az = some bq ∧
 (15 : Int) < (b7 : Int) ∧
 ∃ (af : Int), a2.cell? (bq.add (Int.toNat 15 * 1)) = some (.int .u8 af) ∧
 (-9223372036854775808 : Int) ≤ af ∧ af < 9223372036854775808 ∧
 (-9223372036854775808 : Int) ≤ ((16 : Int) + af) ∧ ((16 : Int) + af) < 9223372036854775808 ∧
 (0 : Int) ≤ (((16 : Int) + af) : Int) ∧ (((16 : Int) + af) : Int) ≤ (ah : Int) ∧ (16 : Int) ≤ (((16 : Int) + af) : Int) ∧ 
 ∀ (ap : World), Ext no a2 ap →
 ∃ (av : Option Addr) (b6 : Nat) (au : Nat) (b3 : World), (Builtin.append_ #[23, 23] 23 #[.slice ag ae aj, .slice (cutA ao ah 16 1) ((Int.toNat ((16 : Int) + af)) - 16) (ah - 16)]).run Try.prog ap = .ok (.slice av b6 au) b3 ∧
 (-9223372036854775808 : Int) ≤ (a4 + 1) ∧ (a4 + 1) < 9223372036854775808 ∧
 ∃ bp, bp < bo ∧ I0 bp [.slice av b6 au, .int .i64 (a4 + 1)] b3))) ∧
 (a8 ≤ a4 →
 Calls Try.prog 10 #[.int .u32 bd, .int .u32 a1, .int .u32 be, .slice ag ae aj] a2 fun bj al => ∃ (a6 : Option Addr) (a0 : Nat) (ad : Nat) (a3 : Int), bj = .returned (.tuple #[.slice a6 a0 ad, .int .i64 a3]) ∧
 (a3 ≠ 0 →
 R (.tuple #[.slice none 0 0, .int .i64 0]) al) ∧
 (a3 = 0 →
 ((a0 : Int) ≠ a8 →
 R (.tuple #[.slice none 0 0, .int .i64 0]) al) ∧
 ((a0 : Int) = a8 →
 ∃ (I2 : Nat → List Value → World → Prop) (bw : Nat), I2 bw [.int .i64 0] al ∧ ∀ (bu : Nat) (ac : World) (ab : Int), I2 bu [.int .i64 ab] ac →
 (ab < a8 →
 ∃ bt : Addr, a6 = some bt ∧
 0 ≤ (ab : Int) ∧ (ab : Int) < (a0 : Int) ∧
 ∃ (aw : Option Addr) (b2 : Nat) (ar : Nat), ac.cell? (bt.add (Int.toNat ab * 1)) = some (.slice aw b2 ar) ∧
 0 ≤ (ab : Int) ∧ (ab : Int) < (aa : Int) ∧
 ∃ (b4 : Option Addr) (ax : Nat) (ay : Nat), ac.cell? (a5.add (Int.toNat ab * 1)) = some (.slice b4 ax ay) ∧
 ∀ (b5 : World), Ext no ac b5 →
 Calls Try.prog 27 #[.slice aw b2 ar, .slice b4 ax ay] b5 fun bm aq => ∃ (a7 : Bool), bm = .returned (.bool a7) ∧
 (a7 = false →
 R (.tuple #[.slice none 0 0, .int .i64 0]) aq) ∧
 (a7 = true →
 (-9223372036854775808 : Int) ≤ (ab + 1) ∧ (ab + 1) < 9223372036854775808 ∧
 ∃ bs, bs < bu ∧ I2 bs [.int .i64 (ab + 1)] aq)) ∧
 (a8 ≤ ab →
 R (.tuple #[.slice ag ae aj, .int .i64 a8]) ac)))))))))

theorem cachetteref10_stands.up (cc : Option Addr) (ce : Nat) (cd : Nat) (ae : Int) (ah : Int) {R : Value → World → Prop} {w : World} (h : cachetteref10_stands.N cc ce cd ae ah R w) : cachetteref10_stands.M cc ce cd ae ah R w := by
  unfold cachetteref10_stands.M
  unfold cachetteref10_stands.N at h
  refine bif_of (fun c4 => ?_) (fun c4 => ?_)
  · have h := h.1 (beq_t c4)
    exact h
  · have h := h.2 (beq_f c4)
    obtain ⟨a5, ab, h⟩ := h
    refine elim_some ab ?_
    obtain ⟨a0, h⟩ := h
    refine ⟨by decide, a0, ?_⟩
    obtain ⟨ch, cg, d4, d1, h⟩ := h
    refine ⟨ch, cg, d4, d1, ?_⟩
    refine bif_of (fun c8 => ?_) (fun c8 => ?_)
    · have h := h.1 (bne_t c8)
      exact h
    · have h := h.2 (bne_f c8)
      refine thenW_in fun d2 e9 => ?_
      have ai := (Ext.refl no w).x_drew e9
      refine elim_some ab ?_
      obtain ⟨a0, h⟩ := h
      refine ⟨by decide, a0, ?_⟩
      obtain ⟨ax, ar, be, b7, h⟩ := h
      refine ⟨ax, ar, be, (ai).cell b7 id, ?_⟩
      obtain ⟨a1, h⟩ := h
      refine ⟨by decide, a1, by decide, by decide, ?_⟩
      refine elim_some ab ?_
      obtain ⟨a0, h⟩ := h
      refine ⟨by decide, a0, ?_⟩
      obtain ⟨ba, aj, aw, ak, h⟩ := h
      refine ⟨ba, aj, aw, (ai).cell ak id, ?_⟩
      obtain ⟨d6, c2, h⟩ := h
      refine elim_some c2 ?_
      obtain ⟨a0, h⟩ := h
      refine ⟨by decide, a0, ?_⟩
      obtain ⟨cq, c0, h⟩ := h
      refine ⟨cq, (ai).cell c0 id, ?_⟩
      obtain ⟨a8, a9, h⟩ := h
      try rw [w64 a8 a9]
      have h := h d2 ai
      refine h.mono fun cx cr h => ?_
      obtain ⟨a2, he, h⟩ := h
      refine ⟨a2, he, ?_⟩
      obtain ⟨b5, bn, h⟩ := h
      refine ⟨b5, bn, ?_⟩
      refine bif_of (fun aq => ?_) (fun aq => ?_)
      · have h := h.1 (beq_t aq)
        exact h
      · have h := h.2 (beq_f aq)
        refine bif_of (fun bd => ?_) (fun bd => ?_)
        · have h := h.1 (beq_t bd)
          exact h
        · have h := h.2 (beq_f bd)
          refine bif_of (fun c3 => ?_) (fun c3 => ?_)
          · have h := h.1 (of_decide_eq_true c3)
            exact h
          · have h := h.2 (Int.not_lt.1 (of_decide_eq_false c3))
            obtain ⟨I0, cj, h0, h⟩ := h
            refine ⟨I0, cj, h0, fun cn ag an c6 bw cl hI => ?_⟩
            have h := h cn ag an c6 bw cl hI
            refine bif_of (fun c5 => ?_) (fun c5 => ?_)
            · have h := h.1 (of_decide_eq_true c5)
              refine elim_some ab ?_
              obtain ⟨a1, a0, h⟩ := h
              refine ⟨a1, a0, ?_⟩
              obtain ⟨bx, al, av, am, h⟩ := h
              refine ⟨bx, al, av, am, ?_⟩
              refine bif_of (fun bq => ?_) (fun bq => ?_)
              · have h := h.1 (bne_t bq)
                exact h
              · have h := h.2 (bne_f bq)
                refine elim_some ab ?_
                obtain ⟨a1, a0, h⟩ := h
                refine ⟨a1, a0, ?_⟩
                obtain ⟨bz, az, ca, b0, h⟩ := h
                refine ⟨bz, az, ca, b0, ?_⟩
                obtain ⟨d8, bc, h⟩ := h
                refine elim_some bc ?_
                obtain ⟨a0, h⟩ := h
                refine ⟨by decide, a0, ?_⟩
                obtain ⟨cu, br, h⟩ := h
                refine ⟨cu, br, ?_⟩
                refine bif_of (fun bk => ?_) (fun bk => ?_)
                · have h := h.1 (of_decide_eq_true bk)
                  exact h
                · have h := h.2 (Int.not_lt.1 (of_decide_eq_false bk))
                  refine thenW_in fun b2 ci => ?_
                  have aa := (Ext.refl no ag).x_drew ci
                  refine elim_some ab ?_
                  obtain ⟨a1, a0, h⟩ := h
                  refine ⟨a1, a0, ?_⟩
                  obtain ⟨c1, bo, bu, bl, h⟩ := h
                  refine ⟨c1, bo, bu, (aa).cell bl id, ?_⟩
                  refine elim_some ab ?_
                  obtain ⟨a1, a0, h⟩ := h
                  refine ⟨a1, a0, ?_⟩
                  obtain ⟨c9, bi, bj, au, h⟩ := h
                  refine ⟨c9, bi, bj, (aa).cell au id, ?_⟩
                  obtain ⟨d7, bp, h⟩ := h
                  refine elim_some bp ?_
                  obtain ⟨a0, h⟩ := h
                  refine ⟨by decide, a0, ?_⟩
                  obtain ⟨cw, ao, h⟩ := h
                  refine ⟨cw, (aa).cell ao id, ?_⟩
                  obtain ⟨a8, a9, h⟩ := h
                  try rw [w64 a8 a9]
                  obtain ⟨a8, a9, h⟩ := h
                  try rw [w64 a8 a9]
                  obtain ⟨cs, a1, cy, h⟩ := h
                  refine ⟨cs, a1, by decide, cy, ?_⟩
                  have h := h b2 aa
                  obtain ⟨ap, bh, b6, bf, hr, h⟩ := h
                  refine ⟨ap, bh, b6, bf, hr, ?_⟩
                  obtain ⟨a8, a9, h⟩ := h
                  try rw [w64 a8 a9]
                  obtain ⟨cf, hk, h⟩ := h
                  exact ⟨cf, hk, h⟩
            · have h := h.2 (Int.not_lt.1 (of_decide_eq_false c5))
              refine h.mono fun d3 ct h => ?_
              obtain ⟨a3, a6, a4, a7, he, h⟩ := h
              refine ⟨a3, a6, a4, a7, he, ?_⟩
              refine bif_of (fun b4 => ?_) (fun b4 => ?_)
              · have h := h.1 (bne_t b4)
                exact h
              · have h := h.2 (bne_f b4)
                refine bif_of (fun b8 => ?_) (fun b8 => ?_)
                · have h := h.1 (bne_t b8)
                  exact h
                · have h := h.2 (bne_f b8)
                  obtain ⟨I2, cz, h0, h⟩ := h
                  refine ⟨I2, cz, h0, fun ck af d0 hI => ?_⟩
                  have h := h ck af d0 hI
                  refine bif_of (fun b3 => ?_) (fun b3 => ?_)
                  · have h := h.1 (of_decide_eq_true b3)
                    refine thenW_in fun ay cv => ?_
                    have ac := (Ext.refl no af).x_drew cv
                    obtain ⟨d5, bb, h⟩ := h
                    refine elim_some bb ?_
                    obtain ⟨a1, a0, h⟩ := h
                    refine ⟨a1, a0, ?_⟩
                    obtain ⟨c7, bv, bm, cb, h⟩ := h
                    refine ⟨c7, bv, bm, (ac).cell cb id, ?_⟩
                    refine elim_some ab ?_
                    obtain ⟨a1, a0, h⟩ := h
                    refine ⟨a1, a0, ?_⟩
                    obtain ⟨bg, bs, bt, b9, h⟩ := h
                    refine ⟨bg, bs, bt, (ac).cell b9 id, ?_⟩
                    have h := h ay ac
                    refine h.mono fun cm co h => ?_
                    obtain ⟨ad, he, h⟩ := h
                    refine ⟨ad, he, ?_⟩
                    refine bif_of (fun b1 => ?_) (fun b1 => ?_)
                    · have h := h.1 (not_t b1)
                      exact h
                    · have h := h.2 (not_f b1)
                      obtain ⟨a8, a9, h⟩ := h
                      try rw [w64 a8 a9]
                      obtain ⟨cp, hk, h⟩ := h
                      exact ⟨cp, hk, h⟩
                  · have h := h.2 (Int.not_lt.1 (of_decide_eq_false b3))
                    exact h

theorem cachetteref10_stands.go (a3 : Option Addr) (a2 : Nat) (a4 : Nat) (a0 : Int) (a1 : Int) {R : Value → World → Prop} {w : World} (h : cachetteref10_stands.N a3 a2 a4 a0 a1 R w) : Calls Try.prog 40 #[.slice a3 a2 a4, .int .u32 a0, .int .u32 a1] w fun e w' => ∃ v, e = .returned v ∧ R v w' := cachetteref10_stands.ok a3 a2 a4 a0 a1 (cachetteref10_stands.up a3 a2 a4 a0 a1 h)
/-- cachetteref10.Scan -/
def cachetteref10_Scan.M (aj : Option Addr) (ai : Nat) (c2 : Nat) (al : Int) (R : Value → World → Prop) (w : World) : Prop :=
 ∃ (I0 : Nat → List Value → World → Prop) (m5 : Nat), I0 m5 [.slice none 0 0, .int .i64 0] w ∧ ∀ (m6 : Nat) (br : World) (a7 : Option Addr) (a4 : Nat) (a6 : Nat) (a2 : Int), I0 m6 [.slice a7 a4 a6, .int .i64 a2] br →
 bif al != 0 then (
 (0 : Int) ≤ (a2 : Int) ∧ (a2 : Int) ≤ (ai : Int) ∧
 Calls Try.prog 40 #[.slice (if c2 = Int.toNat a2 then aj else Option.map (fun z : Addr => z.add ((Int.toNat a2) * 1)) aj) (ai - (Int.toNat a2)) (c2 - (Int.toNat a2)), .int .u32 al, .int .u32 (IntKind.u32.wrap (a4 : Int))] br fun bd aq => ∃ (ah : Option Addr) (ag : Nat) (ae : Nat) (a9 : Int), bd = .returned (.tuple #[.slice ah ag ae, .int .i64 a9]) ∧
 bif a9 == 0 then (
 ∃ (I2 : Nat → List Value → World → Prop) (c8 : Nat), I2 c8 [.int .u32 0, .int .i64 0] aq ∧ ∀ (az : Nat) (a8 : World) (a1 : Int) (ab : Int), I2 az [.int .u32 a1, .int .i64 ab] a8 →
 bif decide (ab < (ai : Int)) then (
 aj.elim False fun c6 =>
 0 ≤ (ab : Int) ∧ (ab : Int) < (ai : Int) ∧
 ∃ (bp : Option Addr) (b7 : Nat) (bl : Nat), a8.cell? (c6.add (Int.toNat ab * 1)) = some (.slice bp b7 bl) ∧
 bif (b7 : Int) == 64 then (
 aj.elim False fun cg =>
 0 ≤ (ab : Int) ∧ (ab : Int) < (ai : Int) ∧
 ∃ (b8 : Option Addr) (b6 : Nat) (bn : Nat), a8.cell? (cg.add (Int.toNat ab * 1)) = some (.slice b8 b6 bn) ∧
 b8.elim False fun ce =>
 0 ≤ (0 : Int) ∧ (0 : Int) < (b6 : Int) ∧
 ∃ (bx : Int), a8.cell? (ce.add (Int.toNat 0 * 1)) = some (.int .u8 bx) ∧
 bif bx == 197 then (
 aj.elim False fun c7 =>
 0 ≤ (ab : Int) ∧ (ab : Int) < (ai : Int) ∧
 ∃ (ar : Option Addr) (bb : Nat) (am : Nat), a8.cell? (c7.add (Int.toNat ab * 1)) = some (.slice ar bb am) ∧
 (0 : Int) ≤ (5 : Int) ∧ (5 : Int) ≤ (am : Int) ∧ (0 : Int) ≤ (1 : Int) ∧ (1 : Int) ≤ (5 : Int) ∧
 Calls Try.prog 41 #[.slice (if am = Int.toNat 1 then ar else Option.map (fun z : Addr => z.add ((Int.toNat 1) * 1)) ar) ((Int.toNat 5) - (Int.toNat 1)) (am - (Int.toNat 1))] a8 fun bs av => ∃ (ad : Int), bs = .returned (.int .u32 ad) ∧
 bif ad == al then (
 aj.elim False fun ca =>
 0 ≤ (ab : Int) ∧ (ab : Int) < (ai : Int) ∧
 ∃ (aw : Option Addr) (bk : Nat) (an : Nat), av.cell? (ca.add (Int.toNat ab * 1)) = some (.slice aw bk an) ∧
 (0 : Int) ≤ (9 : Int) ∧ (9 : Int) ≤ (an : Int) ∧ (0 : Int) ≤ (5 : Int) ∧ (5 : Int) ≤ (9 : Int) ∧
 Calls Try.prog 41 #[.slice (if an = Int.toNat 5 then aw else Option.map (fun z : Addr => z.add ((Int.toNat 5) * 1)) aw) ((Int.toNat 9) - (Int.toNat 5)) (an - (Int.toNat 5))] av fun bg bo => ∃ (a5 : Int), bg = .returned (.int .u32 a5) ∧
 ∃ bw, bw < az ∧ I2 bw [.int .u32 (if (a5 : Int) > a1 then a5 else a1), .int .i64 (IntKind.i64.wrap (ab + 1))] bo) else (
 ∃ c5, c5 < az ∧ I2 c5 [.int .u32 a1, .int .i64 (IntKind.i64.wrap (ab + 1))] av)) else (
 ∃ bt, bt < az ∧ I2 bt [.int .u32 a1, .int .i64 (IntKind.i64.wrap (ab + 1))] a8)) else (
 ∃ bv, bv < az ∧ I2 bv [.int .u32 a1, .int .i64 (IntKind.i64.wrap (ab + 1))] a8)) else (
 R (.tuple #[.slice a7 a4 a6, .int .i64 a2, .int .u32 a1]) a8)) else (
 thenW (aq.alloc (.cells #[.slice ah ag ae] 23)) fun bj =>
 ∃ (b4 : Option Addr) (b5 : Nat) (b1 : Nat) (b0 : World), (Builtin.append_ #[25, 25] 25 #[.slice a7 a4 a6, .slice (some (blk aq.heap.size)) 1 1]).run Try.prog bj = .ok (.slice b4 b5 b1) b0 ∧
 ∃ c3, c3 < m6 ∧ I0 c3 [.slice b4 b5 b1, .int .i64 (IntKind.i64.wrap (a2 + a9))] b0)) else (
 ∃ (I2 : Nat → List Value → World → Prop) (c9 : Nat), I2 c9 [.int .u32 0, .int .i64 0] br ∧ ∀ (b2 : Nat) (aa : World) (a0 : Int) (ac : Int), I2 b2 [.int .u32 a0, .int .i64 ac] aa →
 bif decide (ac < (ai : Int)) then (
 aj.elim False fun cd =>
 0 ≤ (ac : Int) ∧ (ac : Int) < (ai : Int) ∧
 ∃ (bq : Option Addr) (ay : Nat) (bh : Nat), aa.cell? (cd.add (Int.toNat ac * 1)) = some (.slice bq ay bh) ∧
 bif (ay : Int) == 64 then (
 aj.elim False fun cf =>
 0 ≤ (ac : Int) ∧ (ac : Int) < (ai : Int) ∧
 ∃ (b3 : Option Addr) (b9 : Nat) (bc : Nat), aa.cell? (cf.add (Int.toNat ac * 1)) = some (.slice b3 b9 bc) ∧
 b3.elim False fun cb =>
 0 ≤ (0 : Int) ∧ (0 : Int) < (b9 : Int) ∧
 ∃ (bz : Int), aa.cell? (cb.add (Int.toNat 0 * 1)) = some (.int .u8 bz) ∧
 bif bz == 197 then (
 aj.elim False fun cc =>
 0 ≤ (ac : Int) ∧ (ac : Int) < (ai : Int) ∧
 ∃ (ax : Option Addr) (ba : Nat) (ak : Nat), aa.cell? (cc.add (Int.toNat ac * 1)) = some (.slice ax ba ak) ∧
 (0 : Int) ≤ (5 : Int) ∧ (5 : Int) ≤ (ak : Int) ∧ (0 : Int) ≤ (1 : Int) ∧ (1 : Int) ≤ (5 : Int) ∧
 Calls Try.prog 41 #[.slice (if ak = Int.toNat 1 then ax else Option.map (fun z : Addr => z.add ((Int.toNat 1) * 1)) ax) ((Int.toNat 5) - (Int.toNat 1)) (ak - (Int.toNat 1))] aa fun bi ap => ∃ (af : Int), bi = .returned (.int .u32 af) ∧
 bif af == al then (
 aj.elim False fun ch =>
 0 ≤ (ac : Int) ∧ (ac : Int) < (ai : Int) ∧
 ∃ (au : Option Addr) (be : Nat) (ao : Nat), ap.cell? (ch.add (Int.toNat ac * 1)) = some (.slice au be ao) ∧
 (0 : Int) ≤ (9 : Int) ∧ (9 : Int) ≤ (ao : Int) ∧ (0 : Int) ≤ (5 : Int) ∧ (5 : Int) ≤ (9 : Int) ∧
 Calls Try.prog 41 #[.slice (if ao = Int.toNat 5 then au else Option.map (fun z : Addr => z.add ((Int.toNat 5) * 1)) au) ((Int.toNat 9) - (Int.toNat 5)) (ao - (Int.toNat 5))] ap fun bf bm => ∃ (a3 : Int), bf = .returned (.int .u32 a3) ∧
 ∃ bu, bu < b2 ∧ I2 bu [.int .u32 (if (a3 : Int) > a0 then a3 else a0), .int .i64 (IntKind.i64.wrap (ac + 1))] bm) else (
 ∃ c4, c4 < b2 ∧ I2 c4 [.int .u32 a0, .int .i64 (IntKind.i64.wrap (ac + 1))] ap)) else (
 ∃ c0, c0 < b2 ∧ I2 c0 [.int .u32 a0, .int .i64 (IntKind.i64.wrap (ac + 1))] aa)) else (
 ∃ c1, c1 < b2 ∧ I2 c1 [.int .u32 a0, .int .i64 (IntKind.i64.wrap (ac + 1))] aa)) else (
 R (.tuple #[.slice a7 a4 a6, .int .i64 a2, .int .u32 a0]) aa))

theorem cachetteref10_Scan.eq (l1a : Option Addr) (l1n : Nat) (l1c : Nat) (gen2 : Int) (R : Value → World → Prop) (w : World) : mfunc Try.prog [(0, [0, 1], [(7, (.one .slice)), (8, (.one (.int .i64)))]), (2, [0, 1, 7, 8], [(11, (.one (.int .u32))), (12, (.one (.int .i64)))])] 17 [.slice l1a l1n l1c, .int .u32 gen2] R w = cachetteref10_Scan.M l1a l1n l1c gen2 R w := by kernel_rfl
theorem cachetteref10_Scan.ok (a1 : Option Addr) (a2 : Nat) (a3 : Nat) (a0 : Int) {R : Value → World → Prop} {w : World} (h : cachetteref10_Scan.M a1 a2 a3 a0 R w) : Calls Try.prog 17 #[.slice a1 a2 a3, .int .u32 a0] w fun e w' => ∃ v, e = .returned v ∧ R v w' :=
  mfunc_ok follows (H := [(0, [0, 1], [(7, (.one .slice)), (8, (.one (.int .i64)))]), (2, [0, 1, 7, 8], [(11, (.one (.int .u32))), (12, (.one (.int .i64)))])]) (args := [.slice a1 a2 a3, .int .u32 a0]) (by rw [cachetteref10_Scan.eq]; exact h)

def cachetteref10_Scan.N (be : Option Addr) (aj : Nat) (c7 : Nat) (ai : Int) (R : Value → World → Prop) (w : World) : Prop :=
 ∃ (I0 : Nat → List Value → World → Prop) (m5 : Nat), I0 m5 [.slice none 0 0, .int .i64 0] w ∧ ∀ (m6 : Nat) (bw : World) (ac : Option Addr) (a9 : Nat) (ab : Nat) (a3 : Int), I0 m6 [.slice ac a9 ab, .int .i64 a3] bw →
 (ai ≠ 0 →
 (0 : Int) ≤ (a3 : Int) ∧ (a3 : Int) ≤ (aj : Int) ∧ 
 Calls Try.prog 40 #[.slice (cutA be c7 (Int.toNat a3) 1) (aj - (Int.toNat a3)) (c7 - (Int.toNat a3)), .int .u32 ai, .int .u32 (IntKind.u32.wrap (a9 : Int))] bw fun bn av => ∃ (af : Option Addr) (ah : Nat) (ag : Nat) (a0 : Int), bn = .returned (.tuple #[.slice af ah ag, .int .i64 a0]) ∧
 (a0 = 0 →
 ∃ (I2 : Nat → List Value → World → Prop) (cc : Nat), I2 cc [.int .u32 0, .int .i64 0] av ∧ ∀ (b9 : Nat) (ad : World) (a2 : Int) (a4 : Int), I2 b9 [.int .u32 a2, .int .i64 a4] ad →
 (a4 < (aj : Int) →
 ∃ b0 : Addr, be = some b0 ∧
 0 ≤ (a4 : Int) ∧ (a4 : Int) < (aj : Int) ∧
 ∃ (bi : Option Addr) (ap : Nat) (bq : Nat), ad.cell? (b0.add (Int.toNat a4 * 1)) = some (.slice bi ap bq) ∧
 ((ap : Int) = 64 →
 0 ≤ (a4 : Int) ∧ (a4 : Int) < (aj : Int) ∧
 ∃ (b8 : Option Addr) (ax : Nat) (bg : Nat), ad.cell? (b0.add (Int.toNat a4 * 1)) = some (.slice b8 ax bg) ∧
 ∃ c6 : Addr, b8 = some c6 ∧
 (0 : Int) < (ax : Int) ∧
 ∃ (bv : Int), ad.cell? (c6.add (Int.toNat 0 * 1)) = some (.int .u8 bv) ∧
 (bv = 197 →
 0 ≤ (a4 : Int) ∧ (a4 : Int) < (aj : Int) ∧
 ∃ (b6 : Option Addr) (br : Nat) (an : Nat), ad.cell? (b0.add (Int.toNat a4 * 1)) = some (.slice b6 br an) ∧
 (5 : Int) ≤ (an : Int) ∧ 
 Calls Try.prog 41 #[.slice (cutA b6 an 1 1) (5 - 1) (an - 1)] ad fun bs au => ∃ (a8 : Int), bs = .returned (.int .u32 a8) ∧
 (a8 = ai →
 0 ≤ (a4 : Int) ∧ (a4 : Int) < (aj : Int) ∧
 ∃ (b2 : Option Addr) (bf : Nat) (ak : Nat), au.cell? (b0.add (Int.toNat a4 * 1)) = some (.slice b2 bf ak) ∧
 (9 : Int) ≤ (ak : Int) ∧ 
 Calls Try.prog 41 #[.slice (cutA b2 ak 5 1) (9 - 5) (ak - 5)] au fun bo bj => ∃ (aa : Int), bo = .returned (.int .u32 aa) ∧
 (-9223372036854775808 : Int) ≤ (a4 + 1) ∧ (a4 + 1) < 9223372036854775808 ∧
 ∃ c5, c5 < b9 ∧ I2 c5 [.int .u32 (if (aa : Int) > a2 then aa else a2), .int .i64 (a4 + 1)] bj) ∧
 (a8 ≠ ai →
 (-9223372036854775808 : Int) ≤ (a4 + 1) ∧ (a4 + 1) < 9223372036854775808 ∧
 ∃ bz, bz < b9 ∧ I2 bz [.int .u32 a2, .int .i64 (a4 + 1)] au)) ∧
 (bv ≠ 197 →
 (-9223372036854775808 : Int) ≤ (a4 + 1) ∧ (a4 + 1) < 9223372036854775808 ∧
 ∃ c2, c2 < b9 ∧ I2 c2 [.int .u32 a2, .int .i64 (a4 + 1)] ad)) ∧
 ((ap : Int) ≠ 64 →
 (-9223372036854775808 : Int) ≤ (a4 + 1) ∧ (a4 + 1) < 9223372036854775808 ∧
 ∃ c3, c3 < b9 ∧ I2 c3 [.int .u32 a2, .int .i64 (a4 + 1)] ad)) ∧
 ((aj : Int) ≤ a4 →
 R (.tuple #[.slice ac a9 ab, .int .i64 a3, .int .u32 a2]) ad)) ∧
 (a0 ≠ 0 →
 ∀ (ao : World) (bc : Nat), Ext no av ao → Blk ao bc 23 [.slice af ah ag] → av.heap.size ≤ bc → bc < ao.heap.size →
 ∃ (az : Option Addr) (b4 : Nat) (b7 : Nat) (aw : World), (Builtin.append_ #[25, 25] 25 #[.slice ac a9 ab, .slice (some (blk bc)) 1 1]).run Try.prog ao = .ok (.slice az b4 b7) aw ∧
 (-9223372036854775808 : Int) ≤ (a3 + a0) ∧ (a3 + a0) < 9223372036854775808 ∧
 ∃ ca, ca < m6 ∧ I0 ca [.slice az b4 b7, .int .i64 (a3 + a0)] aw)) ∧
 (ai = 0 →
 ∃ (I2 : Nat → List Value → World → Prop) (cb : Nat), I2 cb [.int .u32 0, .int .i64 0] bw ∧ ∀ (bb : Nat) (ae : World) (a1 : Int) (a5 : Int), I2 bb [.int .u32 a1, .int .i64 a5] ae →
 (a5 < (aj : Int) →
 ∃ b1 : Addr, be = some b1 ∧
 0 ≤ (a5 : Int) ∧ (a5 : Int) < (aj : Int) ∧
 ∃ (bl : Option Addr) (ar : Nat) (bt : Nat), ae.cell? (b1.add (Int.toNat a5 * 1)) = some (.slice bl ar bt) ∧
 ((ar : Int) = 64 →
 0 ≤ (a5 : Int) ∧ (a5 : Int) < (aj : Int) ∧
 ∃ (ay : Option Addr) (b5 : Nat) (bk : Nat), ae.cell? (b1.add (Int.toNat a5 * 1)) = some (.slice ay b5 bk) ∧
 ∃ c9 : Addr, ay = some c9 ∧
 (0 : Int) < (b5 : Int) ∧
 ∃ (bd : Int), ae.cell? (c9.add (Int.toNat 0 * 1)) = some (.int .u8 bd) ∧
 (bd = 197 →
 0 ≤ (a5 : Int) ∧ (a5 : Int) < (aj : Int) ∧
 ∃ (b3 : Option Addr) (bp : Nat) (am : Nat), ae.cell? (b1.add (Int.toNat a5 * 1)) = some (.slice b3 bp am) ∧
 (5 : Int) ≤ (am : Int) ∧ 
 Calls Try.prog 41 #[.slice (cutA b3 am 1 1) (5 - 1) (am - 1)] ae fun bh aq => ∃ (a7 : Int), bh = .returned (.int .u32 a7) ∧
 (a7 = ai →
 0 ≤ (a5 : Int) ∧ (a5 : Int) < (aj : Int) ∧
 ∃ (ba : Option Addr) (bm : Nat) (al : Nat), aq.cell? (b1.add (Int.toNat a5 * 1)) = some (.slice ba bm al) ∧
 (9 : Int) ≤ (al : Int) ∧ 
 Calls Try.prog 41 #[.slice (cutA ba al 5 1) (9 - 5) (al - 5)] aq fun bx bu => ∃ (a6 : Int), bx = .returned (.int .u32 a6) ∧
 (-9223372036854775808 : Int) ≤ (a5 + 1) ∧ (a5 + 1) < 9223372036854775808 ∧
 ∃ c4, c4 < bb ∧ I2 c4 [.int .u32 (if (a6 : Int) > a1 then a6 else a1), .int .i64 (a5 + 1)] bu) ∧
 (a7 ≠ ai →
 (-9223372036854775808 : Int) ≤ (a5 + 1) ∧ (a5 + 1) < 9223372036854775808 ∧
 ∃ c1, c1 < bb ∧ I2 c1 [.int .u32 a1, .int .i64 (a5 + 1)] aq)) ∧
 (bd ≠ 197 →
 (-9223372036854775808 : Int) ≤ (a5 + 1) ∧ (a5 + 1) < 9223372036854775808 ∧
 ∃ c8, c8 < bb ∧ I2 c8 [.int .u32 a1, .int .i64 (a5 + 1)] ae)) ∧
 ((ar : Int) ≠ 64 →
 (-9223372036854775808 : Int) ≤ (a5 + 1) ∧ (a5 + 1) < 9223372036854775808 ∧
 ∃ c0, c0 < bb ∧ I2 c0 [.int .u32 a1, .int .i64 (a5 + 1)] ae)) ∧
 ((aj : Int) ≤ a5 →
 R (.tuple #[.slice ac a9 ab, .int .i64 a3, .int .u32 a1]) ae))

theorem cachetteref10_Scan.up (c6 : Option Addr) (c9 : Nat) (c7 : Nat) (ak : Int) {R : Value → World → Prop} {w : World} (h : cachetteref10_Scan.N c6 c9 c7 ak R w) : cachetteref10_Scan.M c6 c9 c7 ak R w := by
  unfold cachetteref10_Scan.M
  unfold cachetteref10_Scan.N at h
  obtain ⟨I0, m5, h0, h⟩ := h
  refine ⟨I0, m5, h0, fun m6 d0 ah aj ag al hI => ?_⟩
  have h := h m6 d0 ah aj ag al hI
  refine bif_of (fun c8 => ?_) (fun c8 => ?_)
  · have h := h.1 (bne_t c8)
    obtain ⟨cn, a0, h⟩ := h
    refine ⟨cn, a0, ?_⟩
    refine h.mono fun cq ai h => ?_
    obtain ⟨a7, ab, a9, a4, he, h⟩ := h
    refine ⟨a7, ab, a9, a4, he, ?_⟩
    refine bif_of (fun bh => ?_) (fun bh => ?_)
    · have h := h.1 (beq_t bh)
      obtain ⟨I2, cw, h0, h⟩ := h
      refine ⟨I2, cw, h0, fun cu bg ad cg hI => ?_⟩
      have h := h cu bg ad cg hI
      refine bif_of (fun bj => ?_) (fun bj => ?_)
      · have h := h.1 (of_decide_eq_true bj)
        obtain ⟨d2, af, h⟩ := h
        refine elim_some af ?_
        obtain ⟨a0, a1, h⟩ := h
        refine ⟨a0, a1, ?_⟩
        obtain ⟨b3, ap, bt, b4, h⟩ := h
        refine ⟨b3, ap, bt, b4, ?_⟩
        refine bif_of (fun bd => ?_) (fun bd => ?_)
        · have h := h.1 (beq_t bd)
          refine elim_some af ?_
          obtain ⟨a0, a1, h⟩ := h
          refine ⟨a0, a1, ?_⟩
          obtain ⟨bx, aq, aw, az, h⟩ := h
          refine ⟨bx, aq, aw, az, ?_⟩
          obtain ⟨d4, bm, h⟩ := h
          refine elim_some bm ?_
          obtain ⟨a1, h⟩ := h
          refine ⟨by decide, a1, ?_⟩
          obtain ⟨cz, b1, h⟩ := h
          refine ⟨cz, b1, ?_⟩
          refine bif_of (fun c4 => ?_) (fun c4 => ?_)
          · have h := h.1 (beq_t c4)
            refine elim_some af ?_
            obtain ⟨a0, a1, h⟩ := h
            refine ⟨a0, a1, ?_⟩
            obtain ⟨bu, bz, c3, bv, h⟩ := h
            refine ⟨bu, bz, c3, bv, ?_⟩
            obtain ⟨a0, h⟩ := h
            refine ⟨by decide, a0, by decide, by decide, ?_⟩
            refine h.mono fun cv cl h => ?_
            obtain ⟨a8, he, h⟩ := h
            refine ⟨a8, he, ?_⟩
            refine bif_of (fun c2 => ?_) (fun c2 => ?_)
            · have h := h.1 (beq_t c2)
              refine elim_some af ?_
              obtain ⟨a0, a1, h⟩ := h
              refine ⟨a0, a1, ?_⟩
              obtain ⟨bb, an, ar, b5, h⟩ := h
              refine ⟨bb, an, ar, b5, ?_⟩
              obtain ⟨a0, h⟩ := h
              refine ⟨by decide, a0, by decide, by decide, ?_⟩
              refine h.mono fun cr ci h => ?_
              obtain ⟨aa, he, h⟩ := h
              refine ⟨aa, he, ?_⟩
              obtain ⟨a2, a3, h⟩ := h
              try rw [w64 a2 a3]
              obtain ⟨cp, hk, h⟩ := h
              exact ⟨cp, hk, h⟩
            · have h := h.2 (beq_f c2)
              obtain ⟨a2, a3, h⟩ := h
              try rw [w64 a2 a3]
              obtain ⟨cb, hk, h⟩ := h
              exact ⟨cb, hk, h⟩
          · have h := h.2 (beq_f c4)
            obtain ⟨a2, a3, h⟩ := h
            try rw [w64 a2 a3]
            obtain ⟨ch, hk, h⟩ := h
            exact ⟨ch, hk, h⟩
        · have h := h.2 (beq_f bd)
          obtain ⟨a2, a3, h⟩ := h
          try rw [w64 a2 a3]
          obtain ⟨ck, hk, h⟩ := h
          exact ⟨ck, hk, h⟩
      · have h := h.2 (Int.not_lt.1 (of_decide_eq_false bj))
        exact h
    · have h := h.2 (beq_f bh)
      refine thenW_in fun ax av => ?_
      have h := h ax ai.heap.size ((Ext.refl no ai).x_alloc av) (Blk.of_new av) ((Ext.refl no ai)).size (size_lt_alloc av)
      obtain ⟨b0, bn, bw, ao, hr, h⟩ := h
      refine ⟨b0, bn, bw, ao, hr, ?_⟩
      obtain ⟨a2, a3, h⟩ := h
      try rw [w64 a2 a3]
      obtain ⟨ct, hk, h⟩ := h
      exact ⟨ct, hk, h⟩
  · have h := h.2 (bne_f c8)
    obtain ⟨I2, cc, h0, h⟩ := h
    refine ⟨I2, cc, h0, fun cx bk ac cm hI => ?_⟩
    have h := h cx bk ac cm hI
    refine bif_of (fun b6 => ?_) (fun b6 => ?_)
    · have h := h.1 (of_decide_eq_true b6)
      obtain ⟨d3, ae, h⟩ := h
      refine elim_some ae ?_
      obtain ⟨a0, a1, h⟩ := h
      refine ⟨a0, a1, ?_⟩
      obtain ⟨bc, b7, c0, am, h⟩ := h
      refine ⟨bc, b7, c0, am, ?_⟩
      refine bif_of (fun au => ?_) (fun au => ?_)
      · have h := h.1 (beq_t au)
        refine elim_some ae ?_
        obtain ⟨a0, a1, h⟩ := h
        refine ⟨a0, a1, ?_⟩
        obtain ⟨ay, br, ba, be, h⟩ := h
        refine ⟨ay, br, ba, be, ?_⟩
        obtain ⟨d5, bp, h⟩ := h
        refine elim_some bp ?_
        obtain ⟨a1, h⟩ := h
        refine ⟨by decide, a1, ?_⟩
        obtain ⟨ca, bs, h⟩ := h
        refine ⟨ca, bs, ?_⟩
        refine bif_of (fun bl => ?_) (fun bl => ?_)
        · have h := h.1 (beq_t bl)
          refine elim_some ae ?_
          obtain ⟨a0, a1, h⟩ := h
          refine ⟨a0, a1, ?_⟩
          obtain ⟨bf, bo, bq, b9, h⟩ := h
          refine ⟨bf, bo, bq, b9, ?_⟩
          obtain ⟨a0, h⟩ := h
          refine ⟨by decide, a0, by decide, by decide, ?_⟩
          refine h.mono fun ce cj h => ?_
          obtain ⟨a6, he, h⟩ := h
          refine ⟨a6, he, ?_⟩
          refine bif_of (fun b2 => ?_) (fun b2 => ?_)
          · have h := h.1 (beq_t b2)
            refine elim_some ae ?_
            obtain ⟨a0, a1, h⟩ := h
            refine ⟨a0, a1, ?_⟩
            obtain ⟨c1, bi, b8, c5, h⟩ := h
            refine ⟨c1, bi, b8, c5, ?_⟩
            obtain ⟨a0, h⟩ := h
            refine ⟨by decide, a0, by decide, by decide, ?_⟩
            refine h.mono fun d1 cy h => ?_
            obtain ⟨a5, he, h⟩ := h
            refine ⟨a5, he, ?_⟩
            obtain ⟨a2, a3, h⟩ := h
            try rw [w64 a2 a3]
            obtain ⟨co, hk, h⟩ := h
            exact ⟨co, hk, h⟩
          · have h := h.2 (beq_f b2)
            obtain ⟨a2, a3, h⟩ := h
            try rw [w64 a2 a3]
            obtain ⟨cf, hk, h⟩ := h
            exact ⟨cf, hk, h⟩
        · have h := h.2 (beq_f bl)
          obtain ⟨a2, a3, h⟩ := h
          try rw [w64 a2 a3]
          obtain ⟨cs, hk, h⟩ := h
          exact ⟨cs, hk, h⟩
      · have h := h.2 (beq_f au)
        obtain ⟨a2, a3, h⟩ := h
        try rw [w64 a2 a3]
        obtain ⟨cd, hk, h⟩ := h
        exact ⟨cd, hk, h⟩
    · have h := h.2 (Int.not_lt.1 (of_decide_eq_false b6))
      exact h

theorem cachetteref10_Scan.go (a1 : Option Addr) (a2 : Nat) (a3 : Nat) (a0 : Int) {R : Value → World → Prop} {w : World} (h : cachetteref10_Scan.N a1 a2 a3 a0 R w) : Calls Try.prog 17 #[.slice a1 a2 a3, .int .u32 a0] w fun e w' => ∃ v, e = .returned v ∧ R v w' := cachetteref10_Scan.ok a1 a2 a3 a0 (cachetteref10_Scan.up a1 a2 a3 a0 h)
end Go.Proofs.Ytgcjipbahfpopaa

/- Journal: which record stands, plainly; the small functions of a scan. -/
set_option linter.unusedVariables false
set_option linter.unusedSimpArgs false
set_option maxRecDepth 20000
set_option maxHeartbeats 2000000
namespace Go.Proofs.Ytgcjipbahfpopaa
open Go Go.Mx Go.Proofs
open W (OwnB GivesW)
def byteN (s : List UInt8) (i : Nat) : Nat := ((s[i]?).getD 0).toNat
def numB (s : List UInt8) (i : Nat) : Nat := byteN s i * 16777216 + byteN s (i + 1) * 65536 + byteN s (i + 2) * 256 + byteN s (i + 3)
def bodyS (s : List UInt8) : List UInt8 := (s.drop 16).take (byteN s 15)
def cntK (L : List (List UInt8)) : Nat := byteN (L.headD []) 14
def bodyK (L : List (List UInt8)) : List UInt8 := (L.take (cntK L)).flatMap bodyS
/-- a record stands where these sectors begin. -/
def OKS (L : List (List UInt8)) (gen seq : Nat) : Prop :=
  L ≠ [] ∧ (L.headD []).length = 64 ∧ cntK L ≤ L.length ∧ (∀ s ∈ L.take (cntK L), s.length = 64 ∧ byteN s 15 ≤ 48) ∧ frameK gen (numB (L.headD []) 5) seq (bodyK L) = (L.take (cntK L), 0)
instance (L : List (List UInt8)) (gen seq : Nat) : Decidable (OKS L gen seq) := by unfold OKS; infer_instance
def standK (L : List (List UInt8)) (gen seq : Nat) : List UInt8 × Nat := if OKS L gen seq then (bodyK L, cntK L) else ([], 0)
theorem byteN_lt (s : List UInt8) (i : Nat) : byteN s i < 256 := UInt8.toNat_lt _
theorem numB_lt (s : List UInt8) (i : Nat) : numB s i < 4294967296 := by
  have h0 := byteN_lt s i
  have h1 := byteN_lt s (i + 1)
  have h2 := byteN_lt s (i + 2)
  have h3 := byteN_lt s (i + 3)
  unfold numB; omega
theorem cntK_lt (L : List (List UInt8)) : cntK L < 256 := byteN_lt _ _
theorem frameK_zero {gen round seq : Nat} {b : List UInt8} {f : List (List UInt8)} (h : frameK gen round seq b = (f, 0)) : b.length ≤ 4000 ∧ gen ≠ 0 ∧ round ≠ 0 ∧ f = frameL gen round seq b ∧ f ≠ [] := by
  unfold frameK at h
  split at h
  · cases h
  · rename_i h4
    split at h
    · cases h
    · rename_i hz
      injection h with h1 h2
      refine ⟨by omega, fun e => hz (.inl e), fun e => hz (.inr e), h1.symm, ?_⟩
      rw [← h1]
      intro e
      have := congrArg List.length e
      unfold frameL at this
      rw [List.length_map, List.length_range] at this
      have h0 : partsN b.length = 0 := this
      unfold partsN at h0
      rw [if_neg h4] at h0
      split at h0
      · cases h0
      · omega
theorem sec_mark {gen round seq : Nat} {b : List UInt8} {s : List UInt8} (h : s ∈ frameL gen round seq b) : byteN s 0 = 197 ∧ s.length = 64 := by
  unfold frameL at h
  obtain ⟨i, hi, rfl⟩ := List.mem_map.1 h
  exact ⟨rfl, secL_len _ _ _ _ _ (partL_le _ _)⟩
section
variable {L : List (List UInt8)} {gen seq : Nat}
theorem OKS.cnt (h : OKS L gen seq) : cntK L ≠ 0 := fun e => by
  obtain ⟨_, _, _, _, hf⟩ := h
  have := (frameK_zero hf).2.2.2.2
  rw [e] at this
  exact this rfl
theorem OKS.round (h : OKS L gen seq) : numB (L.headD []) 5 ≠ 0 := (frameK_zero h.2.2.2.2).2.2.1
theorem OKS.genz (h : OKS L gen seq) : gen ≠ 0 := (frameK_zero h.2.2.2.2).2.1
theorem OKS.mark (h : OKS L gen seq) : ∀ s ∈ L.take (cntK L), byteN s 0 = 197 ∧ s.length = 64 := fun s hs => by
  have hf := h.2.2.2.2
  have := (frameK_zero hf).2.2.2.1
  rw [this] at hs
  exact sec_mark hs
theorem OKS.head (h : OKS L gen seq) : L.headD [] ∈ L.take (cntK L) := by
  have hc := h.cnt
  obtain ⟨h0, _⟩ := h
  cases L with
  | nil => exact absurd rfl h0
  | cons x r =>
    obtain ⟨k, hk⟩ := Nat.exists_eq_succ_of_ne_zero hc
    rw [hk]
    exact List.mem_cons_self
theorem standK_no (h : ¬ OKS L gen seq) : standK L gen seq = ([], 0) := if_neg h
theorem standK_yes (h : OKS L gen seq) : standK L gen seq = (bodyK L, cntK L) := if_pos h
theorem standK_le (L : List (List UInt8)) (gen seq : Nat) : (standK L gen seq).2 ≤ L.length := by
  by_cases h : OKS L gen seq
  · rw [standK_yes h]; exact h.2.2.1
  · rw [standK_no h]; exact Nat.zero_le _
theorem bodyS_le (s : List UInt8) : (bodyS s).length ≤ 255 := by
  unfold bodyS
  rw [List.length_take]
  have := byteN_lt s 15
  omega
theorem flat_le : ∀ L : List (List UInt8), (L.flatMap bodyS).length ≤ 255 * L.length
  | [] => Nat.le_refl _
  | x :: r => by
    have := bodyS_le x
    have := flat_le r
    rw [List.flatMap_cons, List.length_append, List.length_cons]
    omega
end
/-- a list of bytes' rows, where they lie. -/
structure BsAt (w : World) (a : Option Addr) (c : Nat) (l : List BS) : Prop where
  row : RowAt w a (l.map BS.v)
  oks : ∀ x ∈ l, RowAt w x.a (bytesV x.bs) ∧ x.bs.length ≤ x.c
  le : l.length ≤ c
section
variable {w w' w1 : World} {o o' o1 : Own} {q g n N : Nat} {K : Nat → Prop} {b s : List UInt8} {a : Option Addr} {c : Nat} {l : List BS}
theorem BsAt.no (h : BsAt w a c l) (X : Ext no w w') : BsAt w' a c l := ⟨h.row.no X, fun x hx => ⟨(h.oks x hx).1.no X, (h.oks x hx).2⟩, h.le⟩
theorem BsRow.at (h : BsRow w o a c l) : BsAt w a c l := ⟨h.row.1, fun x hx => ⟨(h.oks x hx).1.1, (h.oks x hx).2⟩, h.le⟩
theorem BsAt.cut (h : BsAt w a c l) (k : Nat) : BsAt w (cutA a c k 1) (c - k) (l.drop k) :=
  ⟨by have := h.row.cut k c (by rw [List.length_map]; exact h.le); rwa [← List.map_drop] at this, fun x hx => h.oks x (List.mem_of_mem_drop hx), by rw [List.length_drop]; have := h.le; omega⟩
theorem BsAt.take (h : BsAt w a c l) (k : Nat) : BsAt w a c (l.take k) :=
  ⟨by have := h.row.take k; rwa [← List.map_take] at this, fun x hx => h.oks x (List.mem_of_mem_take hx), by rw [List.length_take]; have := h.le; omega⟩
theorem BsAt.cell (h : BsAt w a c l) {i : Nat} {x : BS} (hi : l[i]? = some x) : ∃ ad, a = some ad ∧ w.cell? (ad.add (i * 1)) = some (.slice x.a x.bs.length x.c) := by
  obtain ⟨ad, ha, hc⟩ := h.row i x.v (by rw [List.getElem?_map, hi]; rfl)
  exact ⟨ad, ha, by rw [Nat.mul_one]; exact hc⟩
theorem byte_cell (h : RowAt w a (bytesV s)) {i : Nat} (hi : i < s.length) : ∃ ad, a = some ad ∧ w.cell? (ad.add (i * 1)) = some (.int .u8 (byteN s i)) := by
  obtain ⟨ad, ha, hc⟩ := h i (u8V s[i]) (by unfold bytesV; rw [List.getElem?_map, List.getElem?_eq_getElem hi]; rfl)
  refine ⟨ad, ha, ?_⟩
  rw [Nat.mul_one, hc]
  unfold byteN
  rw [List.getElem?_eq_getElem hi]; rfl
theorem sIs_spec (h : RowAt w a (bytesV s)) :
    Calls Try.prog 38 #[.slice a s.length c] w (Ret (.bool (decide (s.length = 64 ∧ byteN s 0 = 197))) fun w' => w' = w) := by
  refine journal_sector_is.run _ _ _ ?_
  unfold journal_sector_is.N
  refine ⟨fun h64 => ?_, fun h64 => ⟨by rw [decide_eq_false (by omega)], rfl⟩⟩
  obtain ⟨ad, rfl, hc⟩ := byte_cell h (i := 0) (by omega)
  refine ⟨ad, rfl, by omega, _, hc, ?_, rfl⟩
  congr 1
  rw [Bool.eq_iff_iff]
  simp
  omega
theorem or_step (n x : Nat) (hn : n < 16777216) (hx : x < 256) : IntKind.u32.wrap ((BitVec.ofInt (IntKind.bits .u32) (IntKind.u32.wrap ((n : Int) * 256)) ||| BitVec.ofInt (IntKind.bits .u32) (IntKind.u32.wrap (x : Int))).toNat) = ((n * 256 + x : Nat) : Int) := by
  rw [show IntKind.u32.wrap ((n : Int) * 256) = ((n * 256 : Nat) : Int) by rw [IntKind.wrap_u32]; omega, show IntKind.u32.wrap (x : Int) = ((x : Nat) : Int) by rw [IntKind.wrap_u32]; omega]
  have h1 : (BitVec.ofInt (IntKind.bits .u32) ((n * 256 : Nat) : Int)).toNat = n * 256 := by
    show (BitVec.ofInt 32 ((n * 256 : Nat) : Int)).toNat = _
    rw [BitVec.ofInt_natCast, BitVec.toNat_ofNat]; omega
  have h2 : (BitVec.ofInt (IntKind.bits .u32) ((x : Nat) : Int)).toNat = x := by
    show (BitVec.ofInt 32 ((x : Nat) : Int)).toNat = _
    rw [BitVec.ofInt_natCast, BitVec.toNat_ofNat]; omega
  rw [BitVec.toNat_or, h1, h2]
  have h3 : n * 256 ||| x = n * 256 + x := by
    have := Nat.two_pow_add_eq_or_of_lt (i := 8) (b := x) (by omega) n
    rw [show (2 : Nat) ^ 8 * n = n * 256 by omega] at this
    exact this.symm
  rw [h3, IntKind.wrap_u32]; omega
/-- a number's bytes so far. -/
def numP (s : List UInt8) (i : Nat) : Nat → Nat
  | 0 => 0
  | k + 1 => numP s i k * 256 + byteN s (i + k)
theorem numP_four (s : List UInt8) (i : Nat) : numP s i 4 = numB s i := by
  simp only [numP, numB, Nat.add_zero]
  omega
theorem numP_lt (s : List UInt8) (i : Nat) : ∀ k, k ≤ 3 → numP s i k < 16777216 := fun k hk => by
  have h0 := byteN_lt s (i + 0)
  have h1 := byteN_lt s (i + 1)
  have h2 := byteN_lt s (i + 2)
  match k, hk with
  | 0, _ => simp only [numP]; omega
  | 1, _ => simp only [numP]; omega
  | 2, _ => simp only [numP]; omega
  | 3, _ => simp only [numP]; omega
theorem at_spec (h : RowAt w a (bytesV s)) (hc : s.length ≤ c) {i : Nat} (hi : i + 4 ≤ s.length) (hs : s.length < 1000000) :
    Calls Try.prog 39 #[.slice a s.length c, .int .i64 i] w (Ret (.int .u32 (numB s i)) fun w' => w' = w) := by
  refine journal_sector_at.run _ _ _ _ ?_
  unfold journal_sector_at.N
  have hcut : (Int.toNat ((i : Int) + 4)) - (Int.toNat (i : Int)) = 4 := by omega
  refine ⟨by omega, by omega, by omega, by omega, by omega, by omega, ?_⟩
  rw [hcut, Int.toNat_natCast]
  refine ⟨fun m vs w1 => ∃ t : Nat, vs = [.int .u32 (numP s i t), .int .i64 t] ∧ m + t = 4 ∧ w1 = w, 4, ⟨0, rfl, rfl, rfl⟩, ?_⟩
  rintro m w7 n t ⟨t', hi', hm, rfl⟩
  simp only [List.cons.injEq, Value.int.injEq, true_and, and_true] at hi'
  obtain ⟨rfl, rfl⟩ := hi'
  refine ⟨fun ht => ?_, fun ht => ?_⟩
  · have ht4 : t' < 4 := by omega
    have hd : RowAt w7 (cutA a c i 1) (bytesV (s.drop i)) := by
      have := h.cut i c (by rw [bytesV_length]; exact hc)
      unfold bytesV at this ⊢
      rwa [← List.map_drop] at this
    obtain ⟨ad, ha, hcell⟩ := byte_cell hd (i := t') (by rw [List.length_drop]; omega)
    have hb : byteN (s.drop i) t' = byteN s (i + t') := by unfold byteN; rw [List.getElem?_drop]
    rw [hb] at hcell
    refine ⟨ad, ha, by omega, by omega, _, by rw [Int.toNat_natCast]; exact hcell, by omega, by omega, m - 1, by omega, t' + 1, ?_, by omega, rfl⟩
    rw [or_step _ _ (numP_lt s i t' (by omega)) (byteN_lt _ _)]; rfl
  · have : t' = 4 := by omega
    subst this
    exact ⟨by rw [numP_four], rfl⟩
theorem num_spec (h : RowAt w a (bytesV s)) (hs : s.length = 4) :
    Calls Try.prog 41 #[.slice a 4 c] w (Ret (.int .u32 (numB s 0)) fun w' => Ext no w w') := by
  refine cachetteref10_number.run _ _ _ ?_
  unfold cachetteref10_number.N
  obtain ⟨ad, rfl, c0⟩ := byte_cell h (i := 0) (by omega)
  obtain ⟨_, e, c1⟩ := byte_cell h (i := 1) (by omega)
  cases e
  obtain ⟨_, e, c2⟩ := byte_cell h (i := 2) (by omega)
  cases e
  obtain ⟨_, e, c3⟩ := byte_cell h (i := 3) (by omega)
  cases e
  have h0 := byteN_lt s 0
  have h1 := byteN_lt s 1
  have h2 := byteN_lt s 2
  have h3 := byteN_lt s 3
  refine ⟨ad, rfl, by decide, _, c0, by decide, _, c1, by decide, _, c2, by decide, _, c3, fun w2 X => ⟨?_, X⟩⟩
  congr 1
  simp only [IntKind.wrap_u32]
  show _ = ((byteN s 0 * 16777216 + byteN s 1 * 65536 + byteN s 2 * 256 + byteN s 3 : Nat) : Int)
  omega
/-- a number within a sector. -/
theorem num_in (h : RowAt w a (bytesV s)) (hc : s.length ≤ c) {i : Nat} (hi : i + 4 ≤ s.length) :
    Calls Try.prog 41 #[.slice (cutA a c i 1) 4 (c - i)] w (Ret (.int .u32 (numB s i)) fun w' => Ext no w w') := by
  have hd : RowAt w (cutA a c i 1) (bytesV ((s.drop i).take 4)) := by
    have := (h.cut i c (by rw [bytesV_length]; exact hc)).take 4
    unfold bytesV at this ⊢
    rwa [← List.map_drop, ← List.map_take] at this
  have hn : numB ((s.drop i).take 4) 0 = numB s i := by
    have hb : ∀ k, k < 4 → byteN ((s.drop i).take 4) k = byteN s (i + k) := fun k hk => by
      unfold byteN
      rw [List.getElem?_take_of_lt hk, List.getElem?_drop]
    unfold numB
    rw [hb 0 (by decide), hb (0 + 1) (by decide), hb (0 + 2) (by decide), hb (0 + 3) (by decide)]; rfl
  have := num_spec (c := c - i) hd (by rw [List.length_take, List.length_drop]; omega)
  rw [hn] at this
  exact this
theorem bEq_spec {b : Option Addr} {d : Nat} {x y : List UInt8} (ha : RowAt w a (bytesV x)) (hb : RowAt w b (bytesV y)) :
    Calls Try.prog 52 #[.slice a x.length c, .slice b y.length d] w (Ret (.bool (decide (x = y))) fun w' => w' = w) := by
  refine bytes_Equal.run _ _ _ _ _ _ ?_
  unfold bytes_Equal.N
  refine ⟨_, conv_str Try.underlying23 Try.underlying5 Try.underlying9 ha, _, conv_str Try.underlying23 Try.underlying5 Try.underlying9 hb, ?_, rfl⟩
  have e : ∀ s : List UInt8, (ByteArray.mk s.toArray).toList = s := fun s => by
    simp
  congr 1
  rw [e, e, Bool.eq_iff_iff]
  simp
theorem eqFunc_spec {ba : Option Addr} {bc : Nat} {l1 l2 : List BS} (h1 : BsAt w a c l1) (h2 : BsAt w ba bc l2) (hl : l1.length < 1000000) :
    Calls Try.prog 51 #[.slice a l1.length c, .slice ba l2.length bc, .func (.func 52) #[] #[]] w (Ret (.bool (decide (l1.map BS.bs = l2.map BS.bs))) fun w' => w' = w) := by
  refine slices_EqualFunc_byte_byte_byte_byte.run _ _ _ _ _ _ _ _ _ ?_
  unfold slices_EqualFunc_byte_byte_byte_byte.N
  have leafF : l1.map BS.bs ≠ l2.map BS.bs → ∀ {w2 : World}, w2 = w → Value.bool false = .bool (decide (l1.map BS.bs = l2.map BS.bs)) ∧ w2 = w := fun h _ X => ⟨by rw [decide_eq_false h], X⟩
  refine ⟨fun h => leafF (fun e => h (by have := congrArg List.length e; simp at this; omega)) rfl, fun h => ?_⟩
  refine ⟨fun m vs w1 => ∃ t : Nat, vs = [.int .i64 t] ∧ m + t = l1.length ∧ w1 = w ∧ (l1.map BS.bs).take t = (l2.map BS.bs).take t, l1.length, ⟨0, rfl, rfl, rfl, rfl⟩, ?_⟩
  rintro m w7 i ⟨t, hi, hm, rfl, htk⟩
  simp only [List.cons.injEq, Value.int.injEq, true_and, and_true] at hi
  subst hi
  refine ⟨fun ht => ?_, fun ht => ?_⟩
  rotate_left
  · have htt : t = l1.length := by omega
    rw [List.take_of_length_le (by simp; omega), List.take_of_length_le (by simp; omega)] at htk
    exact ⟨by rw [decide_eq_true htk], rfl⟩
  have ht1 : t < l1.length := by omega
  have ht2 : t < l2.length := by omega
  have g1 : l1[t]? = some l1[t] := List.getElem?_eq_getElem ht1
  have g2 : l2[t]? = some l2[t] := List.getElem?_eq_getElem ht2
  obtain ⟨x1, x2⟩ := h1.oks _ (List.getElem_mem ht1)
  obtain ⟨y1, y2⟩ := h2.oks _ (List.getElem_mem ht2)
  have n1 : (l1.map BS.bs)[t]? = some (l1[t]).bs := by rw [List.getElem?_map, g1]; rfl
  have n2 : (l2.map BS.bs)[t]? = some (l2[t]).bs := by rw [List.getElem?_map, g2]; rfl
  generalize l1[t] = u at *
  generalize l2[t] = v at *
  obtain ⟨ad, rfl, c1⟩ := h1.cell g1
  obtain ⟨bd, rfl, c2⟩ := h2.cell g2
  refine ⟨ad, rfl, by omega, by omega, u.a, u.bs.length, u.c, by rw [Int.toNat_natCast]; exact c1, bd, rfl, by omega, by omega, v.a, v.bs.length, v.c, by rw [Int.toNat_natCast]; exact c2, by kernel_rfl, ?_⟩
  refine (by exact (bEq_spec (c := u.c) (d := v.c) x1 y1).mono fun z w18 ⟨he, hw⟩ => ⟨_, he, fun hs => leafF (fun e => of_decide_eq_false hs (by rw [e, n2] at n1; injection n1 with n1; exact n1.symm)) hw, fun hs => ⟨by omega, by omega, m - 1, by omega, t + 1, rfl, by omega, hw, by rw [List.take_add_one, List.take_add_one, htk, n1, n2, of_decide_eq_true hs]⟩⟩)
end
end Go.Proofs.Ytgcjipbahfpopaa

/- Journal: the record that stands (both). -/
set_option linter.unusedVariables false
set_option linter.unusedSimpArgs false
set_option maxRecDepth 20000
set_option maxHeartbeats 2000000
namespace Go.Proofs.Ytgcjipbahfpopaa
open Go Go.Mx Go.Proofs
open W (OwnB GivesW)
section
variable {w w' w1 : World} {o o' o1 : Own} {q g n N : Nat} {K : Nat → Prop} {b s : List UInt8} {a : Option Addr} {c : Nat} {l : List BS}
theorem body_row (h : RowAt w a (bytesV s)) (hc : s.length ≤ c) : RowAt w (cutA a c 16 1) (bytesV (bodyS s)) := by
  have := (h.cut 16 c (by rw [bytesV_length]; exact hc)).take (byteN s 15)
  unfold bodyS
  unfold bytesV at this ⊢
  rwa [← List.map_drop, ← List.map_take] at this
theorem body_len (h : s.length = 64) (h15 : byteN s 15 ≤ 48) : (bodyS s).length = byteN s 15 := by
  unfold bodyS
  rw [List.length_take, List.length_drop]; omega
theorem get_map_bs {l : List BS} {i : Nat} {x : BS} (h : l[i]? = some x) : (l.map BS.bs)[i]? = some x.bs := by rw [List.getElem?_map, h]; rfl
theorem mem_take_of {α : Type} {L : List α} {i k : Nat} {x : α} (hi : i < k) (h : L[i]? = some x) : x ∈ L.take k := by
  have : (L.take k)[i]? = some x := by rw [List.getElem?_take, if_pos hi]; exact h
  exact List.mem_of_getElem? this
/-- what is gathered of the first sectors. -/
structure Gath (w : World) (L : List (List UInt8)) (t : Nat) (w1 : World) (ba : Option Addr) (bc : Nat) (b : List UInt8) : Prop where
  own : OwnB w.heap.size w1 ba bc b
  ext : Ext no w w1
  ok : ∀ s ∈ L.take t, s.length = 64 ∧ byteN s 15 ≤ 48
  is : b = (L.take t).flatMap bodyS
theorem gath_len (h : Gath w (l.map BS.bs) n w1 a c b) (hn : n ≤ 255) : b.length ≤ 100000 := by
  rw [h.is]
  have := flat_le ((l.map BS.bs).take n)
  rw [List.length_take] at this
  omega
theorem record_spec (h : BsAt w a c l) (hl : l.length ≤ 100000) {gen seq : Nat} :
    Calls Try.prog 37 #[.slice a l.length c, .int .u32 gen, .int .u32 seq] w (fun z w' => ∃ ba bc, z = .returned (.tuple #[.slice ba (standK (l.map BS.bs) gen seq).1.length bc, .int .i64 (standK (l.map BS.bs) gen seq).2]) ∧ OwnB w.heap.size w' ba bc (standK (l.map BS.bs) gen seq).1 ∧ Ext no w w') := by
  refine (journal_record.go _ _ _ _ _ (R := fun z w' => ∃ ba bc, z = (.tuple #[.slice ba (standK (l.map BS.bs) gen seq).1.length bc, .int .i64 (standK (l.map BS.bs) gen seq).2]) ∧ OwnB w.heap.size w' ba bc (standK (l.map BS.bs) gen seq).1 ∧ Ext no w w') ?_).mono fun z w' ⟨u, he, ba, bc, hu, hw⟩ => ⟨ba, bc, by rw [he, hu], hw⟩
  unfold journal_record.N
  generalize hL : l.map BS.bs = L at *
  have hLl : L.length = l.length := by rw [← hL, List.length_map]
  have leaf : ¬ OKS L gen seq → ∀ {w2 : World}, Ext no w w2 → ∃ ba bc, Value.tuple #[.slice none 0 0, .int .i64 0] = (.tuple #[.slice ba (standK L gen seq).1.length bc, .int .i64 (standK L gen seq).2]) ∧ OwnB w.heap.size w2 ba bc (standK L gen seq).1 ∧ Ext no w w2 := fun hn w2 X => by
    rw [standK_no hn]; exact ⟨none, 0, rfl, W.OwnB.nil _ _, X⟩
  refine ⟨fun h0 => leaf (fun k => k.1 (List.eq_nil_of_length_eq_zero (by omega))) (Ext.refl _ _), fun h0 => ?_⟩
  have hi0 : 0 < l.length := by omega
  have g0 : l[0]? = some l[0] := List.getElem?_eq_getElem hi0
  have hm0 := List.getElem_mem hi0
  generalize l[0] = x0 at *
  have hhead : L.headD [] = x0.bs := by
    have := get_map_bs g0
    rw [hL] at this
    cases L with
    | nil => simp at this
    | cons y r => simp at this; exact this
  obtain ⟨ad, rfl, c0⟩ := h.cell g0
  obtain ⟨r0, e0⟩ := h.oks x0 hm0
  refine ⟨ad, rfl, by omega, x0.a, x0.bs.length, x0.c, c0, ?_⟩
  refine (sIs_spec (c := x0.c) r0).mono fun u w10 ⟨he, hw⟩ => ⟨_, he, fun hs => ?_, fun hs => ?_⟩
  · subst hw
    exact leaf (fun k => of_decide_eq_false hs (by rw [← hhead]; exact ⟨(k.mark _ k.head).2, (k.mark _ k.head).1⟩)) (Ext.refl _ _)
  subst hw
  obtain ⟨h64, hmk⟩ := of_decide_eq_true hs
  obtain ⟨xd, hxd, c14⟩ := byte_cell r0 (i := 14) (by omega)
  have hcnt : byteN x0.bs 14 = cntK L := by unfold cntK; rw [hhead]
  rw [hcnt] at c14
  have hc255 := cntK_lt L
  refine ⟨by omega, x0.a, x0.bs.length, x0.c, c0, xd, hxd, by omega, _, c14, by omega, by omega, fun hgt => leaf (fun k => by have := k.2.2.1; omega) (Ext.refl _ _), fun hle => ⟨by omega, by have := h.le; omega, ?_⟩⟩
  rw [Int.toNat_natCast]
  refine ⟨fun m vs w1 => ∃ (t : Nat) (ba : Option Addr) (bc : Nat) (b : List UInt8), vs = [.slice ba b.length bc, .int .i64 (cntK L : Nat), .int .i64 t] ∧ m + t = cntK L ∧ Gath w10 L t w1 ba bc b, cntK L, ⟨0, none, 0, [], rfl, rfl, ⟨W.OwnB.nil _ _, Ext.refl _ _, fun s hs => by simp at hs, rfl⟩⟩, ?_⟩
  rintro m w23 ba bn bc n19 i ⟨t, ba', bc', b, hi, hm, G⟩
  simp only [List.cons.injEq, Value.slice.injEq, Value.int.injEq, true_and, and_true] at hi
  obtain ⟨⟨rfl, rfl, rfl⟩, rfl, rfl⟩ := hi
  have h23 := h.no G.ext
  refine ⟨fun ht => ?_, fun ht => ?_⟩
  · have htl : t < l.length := by omega
    have gt : l[t]? = some l[t] := List.getElem?_eq_getElem htl
    have hmt := List.getElem_mem htl
    generalize l[t] = x at *
    have gL : L[t]? = some x.bs := by rw [← hL]; exact get_map_bs gt
    have hin : x.bs ∈ L.take (cntK L) := mem_take_of (by omega) gL
    obtain ⟨_, e, cx⟩ := h23.cell gt
    cases e
    obtain ⟨rx, ex⟩ := h23.oks x hmt
    refine ⟨by omega, by omega, x.a, x.bs.length, x.c, by rw [Int.toNat_natCast]; exact cx, ?_⟩
    refine (sIs_spec (c := x.c) rx).mono fun u w29 ⟨he, hw⟩ => ⟨_, he, fun hs => ?_, fun hs => ?_⟩
    · subst hw
      exact leaf (fun k => of_decide_eq_false hs ⟨(k.mark _ hin).2, (k.mark _ hin).1⟩) G.ext
    subst hw
    obtain ⟨hx64, hxm⟩ := of_decide_eq_true hs
    obtain ⟨yd, hyd, c15⟩ := byte_cell rx (i := 15) (by omega)
    refine ⟨yd, hyd, by omega, _, c15, fun hgt => leaf (fun k => by have := (k.2.2.2.1 _ hin).2; omega) G.ext, fun hle15 => ⟨by omega, _, c15, by omega, by omega, by omega, by omega, by omega, by omega, by omega, ?_⟩⟩
    have hbl := body_len hx64 (by omega)
    have hcut : Int.toNat ((16 : Int) + (byteN x.bs 15 : Int)) - 16 = (bodyS x.bs).length := by rw [hbl]; omega
    rw [hcut]
    have hgl := gath_len (l := l) (by rw [hL]; exact G) (show t ≤ 255 by omega)
    obtain ⟨a', c', w38, hr, O38, X38, _⟩ := appB (xc := x.c - 16) G.own G.ext (Nat.le_refl _) G.ext.size (Ext.refl no w29) (body_row rx ex) (by omega)
    refine ⟨a', _, c', w38, hr, by omega, by omega, m - 1, by omega, t + 1, a', c', _, rfl, by omega, ⟨O38, X38, fun s hs => ?_, ?_⟩⟩
    · rw [List.take_add_one, gL] at hs
      rcases List.mem_append.1 hs with hs | hs
      · exact G.ok s hs
      · simp at hs; subst hs; exact ⟨hx64, by omega⟩
    · rw [List.take_add_one, gL, List.flatMap_append, ← G.is]; simp
  · have htt : t = cntK L := by omega
    subst htt
    have hbK : b = bodyK L := G.is
    have hgl := gath_len (l := l) (by rw [hL]; exact G) (show cntK L ≤ 255 by omega)
    have r0' := r0.no G.ext
    refine (at_spec (i := 5) r0' e0 (by omega) (by omega)).mono fun u w42 ⟨he, hw⟩ => ⟨_, he, ?_⟩
    subst hw
    have hnum : numB x0.bs 5 = numB (L.headD []) 5 := by rw [hhead]
    rw [hnum]
    refine (fFrame_spec (o := fun _ => none) (fun b j _ h => by cases h) G.own.row G.own.le (by omega) gen (numB (L.headD []) 5) seq).mono fun u w46 ⟨o46, fa, fc, f, he, s46, hfm, hf⟩ => ⟨_, _, _, _, he, fun hne => leaf (fun k => hne (by rw [hbK]; exact congrArg Prod.snd k.2.2.2.2)) (G.ext.trans (s46.ext.mono fun b ⟨_, _, h⟩ _ => h)), fun heq => ⟨by omega, by have := h.le; omega, ?_⟩⟩
    have X46 : Ext no w42 w46 := s46.ext.mono fun b ⟨_, _, h⟩ _ => h
    rw [Int.toNat_natCast]
    have hlt : (l.take (cntK L)).length = cntK L := by rw [List.length_take]; omega
    have hfl : f.length < 1000000 := by
      have h1 := congrArg List.length hfm
      rw [List.length_map] at h1
      rw [h1]
      unfold frameK
      split
      · exact (by decide)
      · split
        · exact (by decide)
        · show (frameL _ _ _ _).length < _
          unfold frameL
          rw [List.length_map, List.length_range]
          have := partsN_le b.length
          omega
    have hq := eqFunc_spec hf.at ((h23.no X46).take (cntK L)) hfl
    rw [hlt] at hq
    refine hq.mono fun u w50 ⟨he, hw⟩ => ⟨_, he, fun hs => ?_, fun hs => ?_⟩
    · have hs' := of_decide_eq_false hs
      subst hw
      exact leaf (fun k => hs' (by
        rw [hfm, List.map_take, hL, hbK]
        exact congrArg Prod.fst k.2.2.2.2)) (G.ext.trans X46)
    · have hs' := of_decide_eq_true hs
      subst hw
      rw [hfm, List.map_take, hL] at hs'
      have hOK : OKS L gen seq := ⟨fun e => by rw [e] at hLl; simp at hLl; omega, by rw [hhead]; exact h64, by omega, G.ok, Prod.ext (by rw [← hbK]; exact hs') (by rw [← hbK]; exact heq)⟩
      rw [standK_yes hOK, ← hbK]
      exact ⟨ba, bc, rfl, W.OwnB.no G.own X46, G.ext.trans X46⟩
theorem stands_spec (h : BsAt w a c l) (hl : l.length ≤ 100000) {gen seq : Nat} (hg : gen < 4294967296) (hse : seq < 4294967296) :
    Calls Try.prog 40 #[.slice a l.length c, .int .u32 gen, .int .u32 seq] w (fun z w' => ∃ ba bc, z = .returned (.tuple #[.slice ba (standK (l.map BS.bs) gen seq).1.length bc, .int .i64 (standK (l.map BS.bs) gen seq).2]) ∧ OwnB w.heap.size w' ba bc (standK (l.map BS.bs) gen seq).1 ∧ Ext no w w') := by
  refine (cachetteref10_stands.go _ _ _ _ _ (R := fun z w' => ∃ ba bc, z = (.tuple #[.slice ba (standK (l.map BS.bs) gen seq).1.length bc, .int .i64 (standK (l.map BS.bs) gen seq).2]) ∧ OwnB w.heap.size w' ba bc (standK (l.map BS.bs) gen seq).1 ∧ Ext no w w') ?_).mono fun z w' ⟨u, he, ba, bc, hu, hw⟩ => ⟨ba, bc, by rw [he, hu], hw⟩
  unfold cachetteref10_stands.N
  generalize hL : l.map BS.bs = L at *
  have hLl : L.length = l.length := by rw [← hL, List.length_map]
  have leaf : ¬ OKS L gen seq → ∀ {w2 : World}, Ext no w w2 → ∃ ba bc, Value.tuple #[.slice none 0 0, .int .i64 0] = (.tuple #[.slice ba (standK L gen seq).1.length bc, .int .i64 (standK L gen seq).2]) ∧ OwnB w.heap.size w2 ba bc (standK L gen seq).1 ∧ Ext no w w2 := fun hn w2 X => by
    rw [standK_no hn]; exact ⟨none, 0, rfl, W.OwnB.nil _ _, X⟩
  refine ⟨fun h0 => leaf (fun k => k.1 (List.eq_nil_of_length_eq_zero (by omega))) (Ext.refl _ _), fun h0 => ?_⟩
  have hi0 : 0 < l.length := by omega
  have g0 : l[0]? = some l[0] := List.getElem?_eq_getElem hi0
  have hm0 := List.getElem_mem hi0
  generalize l[0] = x0 at *
  have hhead : L.headD [] = x0.bs := by
    have := get_map_bs g0
    rw [hL] at this
    cases L with
    | nil => simp at this
    | cons y r => simp at this; exact this
  obtain ⟨ad, rfl, c0⟩ := h.cell g0
  obtain ⟨r0, e0⟩ := h.oks x0 hm0
  refine ⟨ad, rfl, by omega, x0.a, x0.bs.length, x0.c, c0, fun hne => leaf (fun k => hne (by have := k.2.1; rw [hhead] at this; omega)) (Ext.refl _ _), fun h64' => ?_⟩
  have h64 : x0.bs.length = 64 := by omega
  obtain ⟨xd, hxd, c14⟩ := byte_cell r0 (i := 14) (by omega)
  have hcnt : byteN x0.bs 14 = cntK L := by unfold cntK; rw [hhead]
  rw [hcnt] at c14
  have hc255 := cntK_lt L
  refine ⟨by omega, x0.a, x0.bs.length, x0.c, c0, by omega, by omega, x0.a, x0.bs.length, x0.c, c0, xd, hxd, by omega, _, c14, by omega, by omega, fun w9 X9 => ?_⟩
  have hnum : numB x0.bs 5 = numB (L.headD []) 5 := by rw [hhead]
  have hn := num_in (i := 5) (r0.no X9) e0 (by omega)
  rw [hnum] at hn
  refine hn.mono fun u w19 ⟨he, X19'⟩ => ⟨_, he, ?_⟩
  have X19 := X9.trans X19'
  refine ⟨X19.cell c14 id, X19.cell c0 id, fun hz => leaf (fun k => k.round (by omega)) X19, fun hz => ⟨fun hz0 => leaf (fun k => k.cnt (by omega)) X19, fun hz0 => ⟨fun hgt => leaf (fun k => by have := k.2.2.1; omega) X19, fun hle => ?_⟩⟩⟩
  refine ⟨fun m vs w1 => ∃ (t : Nat) (ba : Option Addr) (bc : Nat) (b : List UInt8), vs = [.slice ba b.length bc, .int .i64 t] ∧ m + t = cntK L ∧ Gath w L t w1 ba bc b, cntK L, ⟨0, none, 0, [], rfl, rfl, ⟨W.OwnB.nil _ _, X19, fun s hs => by simp at hs, rfl⟩⟩, ?_⟩
  rintro m w23 ba bn bc i ⟨t, ba', bc', b, hi, hm, G⟩
  simp only [List.cons.injEq, Value.slice.injEq, Value.int.injEq, true_and, and_true] at hi
  obtain ⟨⟨rfl, rfl, rfl⟩, rfl⟩ := hi
  have h23 := h.no G.ext
  refine ⟨fun ht => ?_, fun ht => ?_⟩
  · have htl : t < l.length := by omega
    have gt : l[t]? = some l[t] := List.getElem?_eq_getElem htl
    have hmt := List.getElem_mem htl
    generalize l[t] = x at *
    have gL : L[t]? = some x.bs := by rw [← hL]; exact get_map_bs gt
    have hin : x.bs ∈ L.take (cntK L) := mem_take_of (by omega) gL
    obtain ⟨_, e, cx⟩ := h23.cell gt
    cases e
    obtain ⟨rx, ex⟩ := h23.oks x hmt
    have cx' : w23.cell? (ad.add (Int.toNat (t : Int) * 1)) = some (.slice x.a x.bs.length x.c) := by rw [Int.toNat_natCast]; exact cx
    refine ⟨by omega, by omega, x.a, x.bs.length, x.c, cx', fun hne => leaf (fun k => hne (by have := (k.2.2.2.1 _ hin).1; omega)) G.ext, fun hx64' => ?_⟩
    have hx64 : x.bs.length = 64 := by omega
    obtain ⟨yd, hyd, c15⟩ := byte_cell rx (i := 15) (by omega)
    refine ⟨by omega, by omega, x.a, x.bs.length, x.c, cx', yd, hyd, by omega, _, c15, fun hgt => leaf (fun k => by have := (k.2.2.2.1 _ hin).2; omega) G.ext, fun hle15 => ⟨by omega, by omega, x.a, x.bs.length, x.c, cx', by omega, by omega, x.a, x.bs.length, x.c, cx', yd, hyd, by omega, _, c15, by omega, by omega, by omega, by omega, by omega, by omega, by omega, fun w40 X40 => ?_⟩⟩
    have hbl := body_len hx64 (by omega)
    have hcut : Int.toNat ((16 : Int) + (byteN x.bs 15 : Int)) - 16 = (bodyS x.bs).length := by rw [hbl]; omega
    rw [hcut]
    have hgl := gath_len (l := l) (by rw [hL]; exact G) (show t ≤ 255 by omega)
    obtain ⟨a', c', w38, hr, O38, X38, _⟩ := appB (xc := x.c - 16) G.own G.ext (Nat.le_refl _) G.ext.size X40 (body_row (rx.no X40) ex) (by omega)
    refine ⟨a', _, c', w38, hr, by omega, by omega, m - 1, by omega, t + 1, a', c', _, rfl, by omega, ⟨O38, X38, fun s hs => ?_, ?_⟩⟩
    · rw [List.take_add_one, gL] at hs
      rcases List.mem_append.1 hs with hs | hs
      · exact G.ok s hs
      · simp at hs; subst hs; exact ⟨hx64, by omega⟩
    · rw [List.take_add_one, gL, List.flatMap_append, ← G.is]; simp
  · have htt : t = cntK L := by omega
    subst htt
    have hbK : b = bodyK L := G.is
    have hgl := gath_len (l := l) (by rw [hL]; exact G) (show cntK L ≤ 255 by omega)
    refine (rFrame_spec (o := fun _ => none) (fun b j _ h => by cases h) G.own.row G.own.le (by omega) hg (numB_lt _ 5) hse).mono fun u w46 ⟨o46, fa, fc, f, he, s46, hfm, hf, _⟩ => ⟨_, _, _, _, he, fun hne => leaf (fun k => hne (by rw [hbK]; exact congrArg Prod.snd k.2.2.2.2)) (G.ext.trans (s46.ext.mono fun b ⟨_, _, h⟩ _ => h)), fun heq => ?_⟩
    have X46 : Ext no w23 w46 := s46.ext.mono fun b ⟨_, _, h⟩ _ => h
    have hLt : (L.take (cntK L)).length = cntK L := by rw [List.length_take]; omega
    have hfl : f.length = (frameK gen (numB (L.headD []) 5) seq b).1.length := by rw [← hfm, List.length_map]
    refine ⟨fun hne => leaf (fun k => hne (by
      have := congrArg (fun z : List (List UInt8) × Int => z.1.length) k.2.2.2.2
      rw [← hbK] at this
      simp only [hLt] at this
      omega)) (G.ext.trans X46), fun hlen => ?_⟩
    have h46 := h23.no X46
    have hfa := hf.at
    refine ⟨fun m vs w1 => ∃ t : Nat, vs = [.int .i64 t] ∧ m + t = cntK L ∧ Ext no w46 w1 ∧ (f.map BS.bs).take t = L.take t, cntK L, ⟨0, rfl, rfl, Ext.refl _ _, rfl⟩, ?_⟩
    rintro m2 w60 i ⟨t, hi, hm2, X60, htk⟩
    simp only [List.cons.injEq, Value.int.injEq, true_and, and_true] at hi
    subst hi
    refine ⟨fun ht => ?_, fun ht => ?_⟩
    · have ht1 : t < f.length := by omega
      have ht2 : t < l.length := by omega
      have g1 : f[t]? = some f[t] := List.getElem?_eq_getElem ht1
      have g2 : l[t]? = some l[t] := List.getElem?_eq_getElem ht2
      have n1 := get_map_bs g1
      have n2 : L[t]? = some (l[t]).bs := by rw [← hL]; exact get_map_bs g2
      obtain ⟨p1, p2⟩ := (hfa.no X60).oks _ (List.getElem_mem ht1)
      obtain ⟨q1, q2⟩ := (h46.no X60).oks _ (List.getElem_mem ht2)
      generalize f[t] = u at *
      generalize l[t] = v at *
      obtain ⟨fd, hfd, d1⟩ := (hfa.no X60).cell g1
      obtain ⟨_, e, d2⟩ := (h46.no X60).cell g2
      cases e
      refine ⟨fd, hfd, by omega, by omega, u.a, u.bs.length, u.c, by rw [Int.toNat_natCast]; exact d1, by omega, by omega, v.a, v.bs.length, v.c, by rw [Int.toNat_natCast]; exact d2, fun w62 X62 => ?_⟩
      have hul : u.bs.length < 1000000 := by
        have hu : u.bs ∈ (frameK gen (numB (L.headD []) 5) seq b).1 := by rw [← hfm]; exact List.mem_of_getElem? n1
        have hz := frameK_zero (f := (frameK gen (numB (L.headD []) 5) seq b).1) (gen := gen) (round := numB (L.headD []) 5) (seq := seq) (b := b) (Prod.ext rfl heq)
        have hu2 : u.bs ∈ frameL gen (numB (L.headD []) 5) seq b := by rw [← hz.2.2.2.1]; exact hu
        have := (sec_mark hu2).2
        omega
      refine (W.sameB_spec (p1.no X62) (q1.no X62) hul).mono fun z w70 ⟨he, X70⟩ => ⟨_, he, fun hs => ?_, fun hs => ?_⟩
      · have hne := of_decide_eq_false hs
        refine leaf (fun k => hne ?_) (G.ext.trans (((X46.trans X60).trans X62).trans X70))
        have hk : f.map BS.bs = L.take (cntK L) := by rw [hfm, hbK]; exact congrArg Prod.fst k.2.2.2.2
        rw [hk, List.getElem?_take, if_pos (by omega), n2] at n1
        injection n1 with n1
        exact n1.symm
      · have heq' := of_decide_eq_true hs
        exact ⟨by omega, by omega, m2 - 1, by omega, t + 1, rfl, by omega, (X60.trans X62).trans X70, by rw [List.take_add_one, List.take_add_one, htk, n1, n2, heq']⟩
    · have htt : t = cntK L := by omega
      have hs' : (frameK gen (numB (L.headD []) 5) seq b).1 = L.take (cntK L) := by
        rw [← htt, ← htk, List.take_of_length_le (by rw [List.length_map]; omega), hfm]
      have hOK : OKS L gen seq := ⟨fun e => by rw [e] at hLl; simp at hLl; omega, by rw [hhead]; exact h64, by omega, G.ok, Prod.ext (by rw [← hbK]; exact hs') (by rw [← hbK]; exact heq)⟩
      rw [standK_yes hOK, ← hbK]
      have X := X46.trans X60
      exact ⟨ba, bc, rfl, W.OwnB.no G.own X, G.ext.trans X⟩
end
end Go.Proofs.Ytgcjipbahfpopaa

/- Journal: a scan (both). -/
set_option linter.unusedVariables false
set_option linter.unusedSimpArgs false
set_option maxRecDepth 20000
set_option maxHeartbeats 2000000
namespace Go.Proofs.Ytgcjipbahfpopaa
open Go Go.Mx Go.Proofs
open W (OwnB GivesW)
def scanG (gen : Nat) : Nat → List (List UInt8) → Nat → List (List UInt8) × Nat
  | 0, _, _ => ([], 0)
  | k + 1, L, s => if (standK L gen s).2 = 0 then ([], 0) else ((standK L gen s).1 :: (scanG gen k (L.drop (standK L gen s).2) (s + 1)).1, (standK L gen s).2 + (scanG gen k (L.drop (standK L gen s).2) (s + 1)).2)
def roundStep (gen : Nat) (r : Nat) (s : List UInt8) : Nat := if s.length = 64 ∧ byteN s 0 = 197 ∧ numB s 1 = gen then max r (numB s 5) else r
def roundOf (gen : Nat) (L : List (List UInt8)) : Nat := L.foldl (roundStep gen) 0
def scanK (L : List (List UInt8)) (gen : Nat) : (List (List UInt8) × Nat) × Nat := (scanG gen (L.length + 1) L 0, roundOf gen L)
theorem roundStep_lt {gen r : Nat} {s : List UInt8} (h : r < 4294967296) : roundStep gen r s < 4294967296 := by
  unfold roundStep
  have := numB_lt s 5
  split <;> omega
theorem roundOf_lt (gen : Nat) (L : List (List UInt8)) : roundOf gen L < 4294967296 := by
  unfold roundOf
  have : ∀ (L : List (List UInt8)) (r : Nat), r < 4294967296 → L.foldl (roundStep gen) r < 4294967296 := by
    intro L
    induction L with
    | nil => intro r h; exact h
    | cons x t ih => intro r h; exact ih _ (roundStep_lt h)
  exact this L 0 (by decide)
theorem roundOf_step {gen : Nat} {L : List (List UInt8)} {t : Nat} {s : List UInt8} (h : L[t]? = some s) : roundOf gen (L.take (t + 1)) = roundStep gen (roundOf gen (L.take t)) s := by
  unfold roundOf
  rw [List.take_add_one, h, List.foldl_append]; rfl
theorem scanG_zero : ∀ (k : Nat) (L : List (List UInt8)) (s : Nat), scanG 0 k L s = ([], 0)
  | 0, _, _ => rfl
  | k + 1, L, s => by
    have : (standK L 0 s).2 = 0 := by rw [standK_no fun h => h.genz rfl]
    simp only [scanG, this, if_true]
theorem scanG_le (gen : Nat) : ∀ (k : Nat) (L : List (List UInt8)) (s : Nat), (scanG gen k L s).2 ≤ L.length ∧ (scanG gen k L s).1.length ≤ (scanG gen k L s).2
  | 0, L, s => ⟨Nat.zero_le _, Nat.le_refl _⟩
  | k + 1, L, s => by
    by_cases h : (standK L gen s).2 = 0
    · simp only [scanG, h, if_true]; exact ⟨Nat.zero_le _, Nat.le_refl _⟩
    · have h1 := standK_le L gen s
      have ih := scanG_le gen k (L.drop (standK L gen s).2) (s + 1)
      rw [List.length_drop] at ih
      simp only [scanG, if_neg h, List.length_cons]
      omega
section
variable {w w' w1 : World} {o o' o1 : Own} {q g n N : Nat} {K : Nat → Prop} {b s : List UInt8} {a : Option Addr} {c : Nat} {l : List BS}
theorem max_int (x y : Nat) : (if ((x : Int) : Int) > (y : Int) then (x : Int) else (y : Int)) = ((max y x : Nat) : Int) := by
  split <;> omega
theorem scan_spec (ok : Tags w o) (h : BsAt w a c l) (hl : l.length ≤ 100000) (gen : Nat) :
    Calls Try.prog 16 #[.slice a l.length c, .int .u32 gen] w (fun z w' => ∃ o' ra rc, ∃ r : List BS, z = .returned (.tuple #[.slice ra r.length rc, .int .i64 (scanK (l.map BS.bs) gen).1.2, .int .u32 (scanK (l.map BS.bs) gen).2]) ∧ Step no w o w' o' ∧ r.map BS.bs = (scanK (l.map BS.bs) gen).1.1 ∧ BsRow w' o' ra rc r) := by
  refine (journal_Scan.go _ _ _ _ (R := fun z w' => ∃ o' ra rc, ∃ r : List BS, z = (.tuple #[.slice ra r.length rc, .int .i64 (scanK (l.map BS.bs) gen).1.2, .int .u32 (scanK (l.map BS.bs) gen).2]) ∧ Step no w o w' o' ∧ r.map BS.bs = (scanK (l.map BS.bs) gen).1.1 ∧ BsRow w' o' ra rc r) ?_).mono fun z w' ⟨u, he, o', ra, rc, r, hu, hw⟩ => ⟨o', ra, rc, r, by rw [he, hu], hw⟩
  unfold journal_Scan.N
  generalize hL : l.map BS.bs = L at *
  have hLl : L.length = l.length := by rw [← hL, List.length_map]
  obtain ⟨T, hT⟩ : ∃ T, scanG gen (L.length + 1) L 0 = T := ⟨_, rfl⟩
  refine ⟨fun m vs w1 => ∃ (t : Nat) (o1 : Own) (ra : Option Addr) (rc : Nat) (r : List BS), vs = [.slice ra r.length rc, .int .i64 t] ∧ t ≤ L.length ∧ L.length < m + t ∧ r.length ≤ t ∧ Step no w o w1 o1 ∧ BsL w.heap.size w1 o1 ra rc r ∧ (r.map BS.bs ++ (scanG gen m (L.drop t) r.length).1, t + (scanG gen m (L.drop t) r.length).2) = T, L.length + 1, ⟨0, o, none, 0, [], rfl, Nat.zero_le _, by omega, Nat.le_refl _, Step.refl _ ok, BsL.nil _ _ _, by rw [← hT]; simp⟩, ?_⟩
  rintro m w7 ra rn rc i ⟨t, o7, ra', rc', r, hi, ht, hm, hrt, s7, R7, hG⟩
  simp only [List.cons.injEq, Value.slice.injEq, Value.int.injEq, true_and, and_true] at hi
  obtain ⟨⟨rfl, rfl, rfl⟩, rfl⟩ := hi
  obtain ⟨k, rfl⟩ : ∃ k, m = k + 1 := ⟨m - 1, by omega⟩
  have h7 := h.no (s7.ext.mono fun b ⟨_, _, h⟩ _ => h)
  have hseq : IntKind.u32.wrap (r.length : Int) = (r.length : Int) := by rw [IntKind.wrap_u32]; omega
  refine ⟨by omega, by omega, ?_⟩
  rw [hseq, Int.toNat_natCast]
  have hdl : l.length - t = (l.drop t).length := by rw [List.length_drop]
  rw [hdl]
  have hrec := record_spec (h7.cut t) (by rw [List.length_drop]; omega) (gen := gen) (seq := r.length)
  rw [List.map_drop, hL] at hrec
  refine hrec.mono fun u w11 ⟨ba, bc, he, hO, X11⟩ => ⟨_, _, _, _, he, fun hz => ?_, fun hz w36 q X36 hb hq hq' => ?_⟩
  · have hz' : (standK (L.drop t) gen r.length).2 = 0 := by omega
    simp only [scanG, hz', if_true, List.append_nil, Nat.add_zero] at hG
    have s11 := Step.of_no X11 s7.ok
    have R11 := R7.step s11 fun _ h => h.elim
    have s011 := s7.trans s11
    have h11 := h7.no X11
    refine ⟨fun m vs w1 => ∃ t2 : Nat, vs = [.int .u32 (roundOf gen (L.take t2) : Nat), .int .i64 t2] ∧ m + t2 = l.length ∧ w1 = w11, l.length, ⟨0, rfl, rfl, rfl⟩, ?_⟩
    rintro m2 w17 rd i ⟨t2, hi, hm2, rfl⟩
    simp only [List.cons.injEq, Value.int.injEq, true_and, and_true] at hi
    obtain ⟨rfl, rfl⟩ := hi
    refine ⟨fun h2 => ?_, fun h2 => ?_⟩
    · have htl : t2 < l.length := by omega
      have gt : l[t2]? = some l[t2] := List.getElem?_eq_getElem htl
      have hmt := List.getElem_mem htl
      have gL : L[t2]? = some (l[t2]).bs := by rw [← hL]; exact get_map_bs gt
      generalize l[t2] = x at *
      obtain ⟨xd, hxd, cx⟩ := h11.cell gt
      obtain ⟨rx, ex⟩ := h11.oks x hmt
      have hst := roundOf_step (gen := gen) gL
      have nx : ∀ v : Nat, v = roundOf gen (L.take (t2 + 1)) → (-9223372036854775808 : Int) ≤ ((t2 : Int) + 1) ∧ ((t2 : Int) + 1) < 9223372036854775808 ∧ ∃ m', m' < m2 ∧ ∃ t3 : Nat, [Value.int .u32 (v : Int), Value.int .i64 ((t2 : Int) + 1)] = [.int .u32 (roundOf gen (L.take t3) : Nat), .int .i64 t3] ∧ m' + t3 = l.length ∧ w17 = w17 := fun v hv => ⟨by omega, by omega, m2 - 1, by omega, t2 + 1, by rw [hv]; rfl, by omega, rfl⟩
      refine ⟨xd, hxd, by omega, by omega, x.a, x.bs.length, x.c, by rw [Int.toNat_natCast]; exact cx, ?_⟩
      refine (sIs_spec (c := x.c) rx).mono fun u w24 ⟨he, hw⟩ => ⟨_, he, fun hs => ?_, fun hs => ?_⟩
      · subst hw
        obtain ⟨h64, hmk⟩ := of_decide_eq_true hs
        refine (at_spec (i := 1) rx ex (by omega) (by omega)).mono fun u w28 ⟨he, hw⟩ => ⟨_, he, fun hgen => ?_, fun hgen => ?_⟩
        · subst hw
          refine (at_spec (i := 5) rx ex (by omega) (by omega)).mono fun u w32 ⟨he, hw⟩ => ⟨_, he, ?_⟩
          subst hw
          rw [max_int]
          exact nx _ (by rw [hst]; unfold roundStep; rw [if_pos ⟨h64, hmk, by omega⟩])
        · subst hw
          exact nx _ (by rw [hst]; unfold roundStep; rw [if_neg (by omega)])
      · subst hw
        have hs' := of_decide_eq_false hs
        exact nx _ (by rw [hst]; unfold roundStep; rw [if_neg (fun h => hs' ⟨h.1, h.2.1⟩)])
    · have htt : t2 = l.length := by omega
      have hfin : scanK L gen = ((r.map BS.bs, t), roundOf gen L) := by unfold scanK; rw [hT, ← hG]
      rw [hfin, htt, List.take_of_length_le (by omega)]
      exact ⟨_, ra, rc, r, rfl, Step.of_no (s011.ext.mono fun b ⟨_, _, h⟩ _ => h) ok, rfl, R11.give s011 (Nat.le_refl _)⟩
  · have hz' : ¬ (standK (L.drop t) gen r.length).2 = 0 := by omega
    have hsl := standK_le (L.drop t) gen r.length
    rw [List.length_drop] at hsl
    simp only [scanG, if_neg hz'] at hG
    have s11 := Step.of_no X11 s7.ok
    have R11 := R7.step s11 fun _ h => h.elim
    have okx : BSok w11 (grow w7 o7) ⟨ba, bc, (standK (L.drop t) gen r.length).1⟩ := ⟨Row.fresh hO.row fun ad ha => (hO.fr ad ha).1, hO.le⟩
    have l7 := s7.size
    obtain ⟨a', c', w39, o39, hr, s39, R39⟩ := R11.push s11.ok (by omega) okx X36 hb hq hq' (by have := X11.size; omega)
    refine ⟨a', _, c', w39, hr, by omega, by omega, k, by omega, t + (standK (L.drop t) gen r.length).2, o39, a', c', _, by rw [Int.natCast_add], by omega, by omega, by rw [List.length_append, List.length_singleton]; omega, (s7.trans s11).trans' s39 fun i hi => .inr hi, R39, ?_⟩
    rw [← hG, List.map_append, List.length_append, List.length_singleton, List.drop_drop]
    simp only [List.map_cons, List.map_nil, List.append_assoc, List.singleton_append, Nat.add_assoc]
theorem rround (h : BsAt w a c l) (hbig : l.length ≤ 100000) (gen : Nat) {End : Int → World → Prop} (hE : ∀ w2, Ext no w w2 → End (roundOf gen (l.map BS.bs) : Nat) w2) :
    ∃ (I2 : Nat → List Value → World → Prop) (m52 : Nat), I2 m52 [.int .u32 0, .int .i64 0] w ∧ ∀ (m53 : Nat) (ww54 : World) (round50 : Int) (i51 : Int), I2 m53 [.int .u32 round50, .int .i64 i51] ww54 →
    (i51 < (l.length : Int) →
      ∃ a56 : Addr, a = some a56 ∧
      0 ≤ (i51 : Int) ∧ (i51 : Int) < (l.length : Int) ∧
      ∃ (x58a : Option Addr) (x58n : Nat) (x58c : Nat), ww54.cell? (a56.add (Int.toNat i51 * 1)) = some (.slice x58a x58n x58c) ∧
      ((x58n : Int) = 64 →
        0 ≤ (i51 : Int) ∧ (i51 : Int) < (l.length : Int) ∧
        ∃ (x61a : Option Addr) (x61n : Nat) (x61c : Nat), ww54.cell? (a56.add (Int.toNat i51 * 1)) = some (.slice x61a x61n x61c) ∧
        ∃ a62 : Addr, x61a = some a62 ∧
        (0 : Int) < (x61n : Int) ∧
        ∃ (x64 : Int), ww54.cell? (a62.add (Int.toNat 0 * 1)) = some (.int .u8 x64) ∧
        (x64 = 197 →
          0 ≤ (i51 : Int) ∧ (i51 : Int) < (l.length : Int) ∧
          ∃ (x67a : Option Addr) (x67n : Nat) (x67c : Nat), ww54.cell? (a56.add (Int.toNat i51 * 1)) = some (.slice x67a x67n x67c) ∧
          (5 : Int) ≤ (x67c : Int) ∧
          Calls Try.prog 41 #[.slice (cutA x67a x67c 1 1) (5 - 1) (x67c - 1)] ww54 fun ee69 ww70 => ∃ (number68 : Int), ee69 = .returned (.int .u32 number68) ∧
          (number68 = gen →
            0 ≤ (i51 : Int) ∧ (i51 : Int) < (l.length : Int) ∧
            ∃ (x73a : Option Addr) (x73n : Nat) (x73c : Nat), ww70.cell? (a56.add (Int.toNat i51 * 1)) = some (.slice x73a x73n x73c) ∧
            (9 : Int) ≤ (x73c : Int) ∧
            Calls Try.prog 41 #[.slice (cutA x73a x73c 5 1) (9 - 5) (x73c - 5)] ww70 fun ee75 ww76 => ∃ (number74 : Int), ee75 = .returned (.int .u32 number74) ∧
            (-9223372036854775808 : Int) ≤ (i51 + 1) ∧ (i51 + 1) < 9223372036854775808 ∧
            ∃ m77, m77 < m53 ∧ I2 m77 [.int .u32 (if (number74 : Int) > round50 then number74 else round50), .int .i64 (i51 + 1)] ww76) ∧
          (number68 ≠ gen →
            (-9223372036854775808 : Int) ≤ (i51 + 1) ∧ (i51 + 1) < 9223372036854775808 ∧
            ∃ m78, m78 < m53 ∧ I2 m78 [.int .u32 round50, .int .i64 (i51 + 1)] ww70)) ∧
        (x64 ≠ 197 →
          (-9223372036854775808 : Int) ≤ (i51 + 1) ∧ (i51 + 1) < 9223372036854775808 ∧
          ∃ m79, m79 < m53 ∧ I2 m79 [.int .u32 round50, .int .i64 (i51 + 1)] ww54)) ∧
      ((x58n : Int) ≠ 64 →
        (-9223372036854775808 : Int) ≤ (i51 + 1) ∧ (i51 + 1) < 9223372036854775808 ∧
        ∃ m80, m80 < m53 ∧ I2 m80 [.int .u32 round50, .int .i64 (i51 + 1)] ww54)) ∧
    ((l.length : Int) ≤ i51 → End round50 ww54) := by
  generalize hL : l.map BS.bs = L at *
  have hLl : L.length = l.length := by rw [← hL, List.length_map]
  refine ⟨fun m vs w1 => ∃ t2 : Nat, vs = [.int .u32 (roundOf gen (L.take t2) : Nat), .int .i64 t2] ∧ m + t2 = l.length ∧ Ext no w w1, l.length, ⟨0, rfl, rfl, Ext.refl _ _⟩, ?_⟩
  rintro m2 w17 rd i ⟨t2, hi, hm2, X17⟩
  simp only [List.cons.injEq, Value.int.injEq, true_and, and_true] at hi
  obtain ⟨rfl, rfl⟩ := hi
  have h11 := h.no X17
  refine ⟨fun h2 => ?_, fun h2 => ?_⟩
  · have htl : t2 < l.length := by omega
    have gt : l[t2]? = some l[t2] := List.getElem?_eq_getElem htl
    have hmt := List.getElem_mem htl
    have gL : L[t2]? = some (l[t2]).bs := by rw [← hL]; exact get_map_bs gt
    generalize l[t2] = x at *
    obtain ⟨xd, rfl, cx0⟩ := h11.cell gt
    obtain ⟨rx, ex⟩ := h11.oks x hmt
    have hst := roundOf_step (gen := gen) gL
    have cx : w17.cell? (xd.add (Int.toNat (t2 : Int) * 1)) = some (.slice x.a x.bs.length x.c) := by rw [Int.toNat_natCast]; exact cx0
    have nx : ∀ (v : Nat) (w2 : World), Ext no w w2 → v = roundOf gen (L.take (t2 + 1)) → (-9223372036854775808 : Int) ≤ ((t2 : Int) + 1) ∧ ((t2 : Int) + 1) < 9223372036854775808 ∧ ∃ m', m' < m2 ∧ ∃ t3 : Nat, [Value.int .u32 (v : Int), Value.int .i64 ((t2 : Int) + 1)] = [.int .u32 (roundOf gen (L.take t3) : Nat), .int .i64 t3] ∧ m' + t3 = l.length ∧ Ext no w w2 := fun v w2 X hv => ⟨by omega, by omega, m2 - 1, by omega, t2 + 1, by rw [hv]; rfl, by omega, X⟩
    refine ⟨xd, rfl, by omega, by omega, x.a, x.bs.length, x.c, cx, fun h64' => ?_, fun h64' => nx _ _ X17 (by rw [hst]; unfold roundStep; rw [if_neg (by omega)])⟩
    have h64 : x.bs.length = 64 := by omega
    obtain ⟨yd, hyd, cy⟩ := byte_cell rx (i := 0) (by omega)
    refine ⟨by omega, by omega, x.a, x.bs.length, x.c, cx, yd, hyd, by omega, _, cy, fun hmk => ?_, fun hmk => nx _ _ X17 (by rw [hst]; unfold roundStep; rw [if_neg (by omega)])⟩
    refine ⟨by omega, by omega, x.a, x.bs.length, x.c, cx, by omega, ?_⟩
    refine (num_in (i := 1) rx ex (by omega)).mono fun u w28 ⟨he, X28⟩ => ⟨_, he, fun hgen => ?_, fun hgen => nx _ _ (X17.trans X28) (by rw [hst]; unfold roundStep; rw [if_neg (by omega)])⟩
    refine ⟨by omega, by omega, x.a, x.bs.length, x.c, X28.cell cx id, by omega, ?_⟩
    refine (num_in (i := 5) (rx.no X28) ex (by omega)).mono fun u w32 ⟨he, X32⟩ => ⟨_, he, ?_⟩
    rw [max_int]
    exact nx _ _ ((X17.trans X28).trans X32) (by rw [hst]; unfold roundStep; rw [if_pos ⟨h64, by omega, by omega⟩])
  · have htt : t2 = l.length := by omega
    have := hE w17 X17
    rw [htt, List.take_of_length_le (by omega)]
    exact this
theorem rScan_spec (ok : Tags w o) (h : BsAt w a c l) (hl : l.length ≤ 100000) {gen : Nat} (hg : gen < 4294967296) :
    Calls Try.prog 17 #[.slice a l.length c, .int .u32 gen] w (fun z w' => ∃ o' ra rc, ∃ r : List BS, z = .returned (.tuple #[.slice ra r.length rc, .int .i64 (scanK (l.map BS.bs) gen).1.2, .int .u32 (scanK (l.map BS.bs) gen).2]) ∧ Step no w o w' o' ∧ r.map BS.bs = (scanK (l.map BS.bs) gen).1.1 ∧ BsRow w' o' ra rc r) := by
  refine (cachetteref10_Scan.go _ _ _ _ (R := fun z w' => ∃ o' ra rc, ∃ r : List BS, z = (.tuple #[.slice ra r.length rc, .int .i64 (scanK (l.map BS.bs) gen).1.2, .int .u32 (scanK (l.map BS.bs) gen).2]) ∧ Step no w o w' o' ∧ r.map BS.bs = (scanK (l.map BS.bs) gen).1.1 ∧ BsRow w' o' ra rc r) ?_).mono fun z w' ⟨u, he, o', ra, rc, r, hu, hw⟩ => ⟨o', ra, rc, r, by rw [he, hu], hw⟩
  unfold cachetteref10_Scan.N
  generalize hL : l.map BS.bs = L at *
  have hLl : L.length = l.length := by rw [← hL, List.length_map]
  obtain ⟨T, hT⟩ : ∃ T, scanG gen (L.length + 1) L 0 = T := ⟨_, rfl⟩
  refine ⟨fun m vs w1 => ∃ (t : Nat) (o1 : Own) (ra : Option Addr) (rc : Nat) (r : List BS), vs = [.slice ra r.length rc, .int .i64 t] ∧ t ≤ L.length ∧ L.length < m + t ∧ r.length ≤ t ∧ Step no w o w1 o1 ∧ BsL w.heap.size w1 o1 ra rc r ∧ (r.map BS.bs ++ (scanG gen m (L.drop t) r.length).1, t + (scanG gen m (L.drop t) r.length).2) = T, L.length + 1, ⟨0, o, none, 0, [], rfl, Nat.zero_le _, by omega, Nat.le_refl _, Step.refl _ ok, BsL.nil _ _ _, by rw [← hT]; simp⟩, ?_⟩
  rintro m w7 ra rn rc i ⟨t, o7, ra', rc', r, hi, ht, hm, hrt, s7, R7, hG⟩
  simp only [List.cons.injEq, Value.slice.injEq, Value.int.injEq, true_and, and_true] at hi
  obtain ⟨⟨rfl, rfl, rfl⟩, rfl⟩ := hi
  obtain ⟨k, rfl⟩ : ∃ k, m = k + 1 := ⟨m - 1, by omega⟩
  have h7 := h.no (s7.ext.mono fun b ⟨_, _, h⟩ _ => h)
  have fin : ∀ {w2 : World} {o2 : Own} {K : Nat → Prop}, Step K w o w2 o2 → (∀ i, K i → False) → BsL w.heap.size w2 o2 ra rc r → (r.map BS.bs, t) = T → ∃ o' ra' rc', ∃ r' : List BS, Value.tuple #[.slice ra r.length rc, .int .i64 t, .int .u32 (roundOf gen L : Nat)] = (.tuple #[.slice ra' r'.length rc', .int .i64 (scanK L gen).1.2, .int .u32 (scanK L gen).2]) ∧ Step no w o w2 o' ∧ r'.map BS.bs = (scanK L gen).1.1 ∧ BsRow w2 o' ra' rc' r' := fun st hK R2 hfin => by
    have hk : scanK L gen = ((r.map BS.bs, t), roundOf gen L) := by unfold scanK; rw [hT, ← hfin]
    rw [hk]
    exact ⟨_, ra, rc, r, rfl, Step.of_no (st.ext.mono fun b ⟨i, _, h⟩ _ => (hK i h).elim) ok, rfl, R2.give st (Nat.le_refl _)⟩
  refine ⟨fun hg0 => ?_, fun hg0 => ?_⟩
  · have hseq : IntKind.u32.wrap (r.length : Int) = (r.length : Int) := by rw [IntKind.wrap_u32]; omega
    refine ⟨by omega, by omega, ?_⟩
    rw [hseq, Int.toNat_natCast]
    have hdl : l.length - t = (l.drop t).length := by rw [List.length_drop]
    rw [hdl]
    have hrec := stands_spec (h7.cut t) (by rw [List.length_drop]; omega) hg (seq := r.length) (by omega)
    rw [List.map_drop, hL] at hrec
    refine hrec.mono fun u w11 ⟨ba, bc, he, hO, X11⟩ => ⟨_, _, _, _, he, fun hz => ?_, fun hz w36 q X36 hb hq hq' => ?_⟩
    · have hz' : (standK (L.drop t) gen r.length).2 = 0 := by omega
      simp only [scanG, hz', if_true, List.append_nil, Nat.add_zero] at hG
      have s11 := Step.of_no X11 s7.ok
      have s011 := s7.trans s11
      refine rround (h7.no X11) hl gen fun w2 X2 => ?_
      have s2 := Step.of_no X2 s11.ok
      rw [hL]
      exact fin (s011.trans s2) (fun _ h => h.elim) ((R7.step s11 fun _ h => h.elim).step s2 fun _ h => h.elim) hG
    · have hz' : ¬ (standK (L.drop t) gen r.length).2 = 0 := by omega
      have hsl := standK_le (L.drop t) gen r.length
      rw [List.length_drop] at hsl
      simp only [scanG, if_neg hz'] at hG
      have s11 := Step.of_no X11 s7.ok
      have R11 := R7.step s11 fun _ h => h.elim
      have okx : BSok w11 (grow w7 o7) ⟨ba, bc, (standK (L.drop t) gen r.length).1⟩ := ⟨Row.fresh hO.row fun ad ha => (hO.fr ad ha).1, hO.le⟩
      have l7 := s7.size
      obtain ⟨a', c', w39, o39, hr, s39, R39⟩ := R11.push s11.ok (by omega) okx X36 hb hq hq' (by have := X11.size; omega)
      refine ⟨a', _, c', w39, hr, by omega, by omega, k, by omega, t + (standK (L.drop t) gen r.length).2, o39, a', c', _, by rw [Int.natCast_add], by omega, by omega, by rw [List.length_append, List.length_singleton]; omega, (s7.trans s11).trans' s39 fun i hi => .inr hi, R39, ?_⟩
      rw [← hG, List.map_append, List.length_append, List.length_singleton, List.drop_drop]
      simp only [List.map_cons, List.map_nil, List.append_assoc, List.singleton_append, Nat.add_assoc]
  · have hg' : gen = 0 := by omega
    subst hg'
    rw [scanG_zero, List.append_nil, Nat.add_zero] at hG
    refine rround h7 hl 0 fun w2 X2 => ?_
    have s2 := Step.of_no X2 s7.ok
    rw [hL]
    exact fin (s7.trans s2) (fun _ h => h.elim) (R7.step s2 fun _ h => h.elim) hG
end
end Go.Proofs.Ytgcjipbahfpopaa
