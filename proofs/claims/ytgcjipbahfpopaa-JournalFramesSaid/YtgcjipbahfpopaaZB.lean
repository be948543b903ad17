/- Journal: predicates of frames. -/
import Derived.Test.YtgcjipbahfpopaaZA
set_option linter.unusedVariables false
set_option linter.unusedSimpArgs false
set_option maxRecDepth 20000
set_option maxHeartbeats 2000000
namespace Go.Proofs.Ytgcjipbahfpopaa
open Go Go.Mx Go.Proofs
/-- journal.Parts -/
def journal_Parts.M (n1 : Int) (R : Value → World → Prop) (w : World) : Prop :=
 bif decide (n1 < 0) then (
 R (.int .i64 0) w) else (
 bif decide (n1 > 4000) then (
 R (.int .i64 0) w) else (
 48 ≠ (0 : Int) ∧ R (.int .i64 (if (1 : Int) > (IntKind.i64.wrap (Int.tdiv (IntKind.i64.wrap ((IntKind.i64.wrap (n1 + 48)) - 1)) 48)) then 1 else (IntKind.i64.wrap (Int.tdiv (IntKind.i64.wrap ((IntKind.i64.wrap (n1 + 48)) - 1)) 48)))) w))

theorem journal_Parts.eq (n1 : Int) (R : Value → World → Prop) (w : World) : mfunc Try.prog [] 12 [.int .i64 n1] R w = journal_Parts.M n1 R w := by kernel_rfl
theorem journal_Parts.ok (n1 : Int) {R : Value → World → Prop} {w : World} (h : journal_Parts.M n1 R w) : Calls Try.prog 12 #[.int .i64 n1] w fun e w' => ∃ v, e = .returned v ∧ R v w' :=
  mfunc_ok follows (H := []) (args := [.int .i64 n1]) (by rw [journal_Parts.eq]; exact h)

def journal_Parts.N (n1 : Int) (R : Value → World → Prop) (w : World) : Prop :=
 (n1 < 0 →
 R (.int .i64 0) w) ∧
 ((0 : Int) ≤ n1 →
 (n1 > 4000 →
 R (.int .i64 0) w) ∧
 (n1 ≤ 4000 →
 R (.int .i64 (if (1 : Int) > (IntKind.i64.wrap (Int.tdiv (IntKind.i64.wrap ((IntKind.i64.wrap (n1 + 48)) - 1)) 48)) then 1 else (IntKind.i64.wrap (Int.tdiv (IntKind.i64.wrap ((IntKind.i64.wrap (n1 + 48)) - 1)) 48)))) w))

theorem journal_Parts.up (n1 : Int) {R : Value → World → Prop} {w : World} (h : journal_Parts.N n1 R w) : journal_Parts.M n1 R w := by
  unfold journal_Parts.M
  unfold journal_Parts.N at h
  refine bif_of (fun c2 => ?_) (fun c2 => ?_)
  · have h := h.1 (of_decide_eq_true c2)
    exact h
  · have h := h.2 (Int.not_lt.1 (of_decide_eq_false c2))
    refine bif_of (fun c3 => ?_) (fun c3 => ?_)
    · have h := h.1 (of_decide_eq_true c3)
      exact h
    · have h := h.2 (Int.not_lt.1 (of_decide_eq_false c3))
      refine ⟨by decide, ?_⟩
      exact h

theorem journal_Parts.go (n1 : Int) {R : Value → World → Prop} {w : World} (h : journal_Parts.N n1 R w) : Calls Try.prog 12 #[.int .i64 n1] w fun e w' => ∃ v, e = .returned v ∧ R v w' := journal_Parts.ok n1 (journal_Parts.up n1 h)
theorem journal_Parts.run (n1 : Int) {V : Value} {Q : World → Prop} {w : World} (h : journal_Parts.N n1 (fun v w' => v = V ∧ Q w') w) : Calls Try.prog 12 #[.int .i64 n1] w (Ret V Q) := (journal_Parts.go n1 h).mono fun e w' ⟨v, he, hv, hq⟩ => ⟨by rw [he, hv], hq⟩

def journal_Parts.F (n1 : Int) : Int :=
  if n1 < 0 then
    0
  else
    if n1 > 4000 then
      0
    else
      (if (1 : Int) > (IntKind.i64.wrap (Int.tdiv (IntKind.i64.wrap ((IntKind.i64.wrap (n1 + 48)) - 1)) 48)) then 1 else (IntKind.i64.wrap (Int.tdiv (IntKind.i64.wrap ((IntKind.i64.wrap (n1 + 48)) - 1)) 48)))
theorem journal_Parts.pure (n1 : Int) {w : World} : Calls Try.prog 12 #[.int .i64 n1] w (Ret (.int .i64 (journal_Parts.F n1)) fun w' => Ext no w w') := by
  refine journal_Parts.run n1 ?_
  unfold journal_Parts.N
  refine ⟨fun c0 => ?_, fun c0 => ?_⟩
  · exact ⟨by unfold journal_Parts.F; rw [if_pos c0], Ext.refl _ _⟩
  · refine ⟨fun c1 => ?_, fun c1 => ?_⟩
    · exact ⟨by unfold journal_Parts.F; rw [if_neg (show ¬ (n1 < 0) from by omega), if_pos c1], Ext.refl _ _⟩
    · exact ⟨by unfold journal_Parts.F; rw [if_neg (show ¬ (n1 < 0) from by omega), if_neg (show ¬ (n1 > 4000) from by omega)], Ext.refl _ _⟩

/-- cachetteref10.Parts -/
def cachetteref10_Parts.M (n1 : Int) (R : Value → World → Prop) (w : World) : Prop :=
 bif decide (n1 < 0) then (
 R (.int .i64 0) w) else (
 bif decide (n1 > 4000) then (
 R (.int .i64 0) w) else (
 bif n1 == 0 then (
 R (.int .i64 1) w) else (
 48 ≠ (0 : Int) ∧ R (.int .i64 (IntKind.i64.wrap (Int.tdiv (IntKind.i64.wrap (n1 + 47)) 48))) w)))

theorem cachetteref10_Parts.eq (n1 : Int) (R : Value → World → Prop) (w : World) : mfunc Try.prog [] 13 [.int .i64 n1] R w = cachetteref10_Parts.M n1 R w := by kernel_rfl
theorem cachetteref10_Parts.ok (n1 : Int) {R : Value → World → Prop} {w : World} (h : cachetteref10_Parts.M n1 R w) : Calls Try.prog 13 #[.int .i64 n1] w fun e w' => ∃ v, e = .returned v ∧ R v w' :=
  mfunc_ok follows (H := []) (args := [.int .i64 n1]) (by rw [cachetteref10_Parts.eq]; exact h)

def cachetteref10_Parts.N (n1 : Int) (R : Value → World → Prop) (w : World) : Prop :=
 (n1 < 0 →
 R (.int .i64 0) w) ∧
 ((0 : Int) ≤ n1 →
 (n1 > 4000 →
 R (.int .i64 0) w) ∧
 (n1 ≤ 4000 →
 (n1 = 0 →
 R (.int .i64 1) w) ∧
 (n1 ≠ 0 →
 R (.int .i64 (IntKind.i64.wrap (Int.tdiv (IntKind.i64.wrap (n1 + 47)) 48))) w)))

theorem cachetteref10_Parts.up (n1 : Int) {R : Value → World → Prop} {w : World} (h : cachetteref10_Parts.N n1 R w) : cachetteref10_Parts.M n1 R w := by
  unfold cachetteref10_Parts.M
  unfold cachetteref10_Parts.N at h
  refine bif_of (fun c2 => ?_) (fun c2 => ?_)
  · have h := h.1 (of_decide_eq_true c2)
    exact h
  · have h := h.2 (Int.not_lt.1 (of_decide_eq_false c2))
    refine bif_of (fun c3 => ?_) (fun c3 => ?_)
    · have h := h.1 (of_decide_eq_true c3)
      exact h
    · have h := h.2 (Int.not_lt.1 (of_decide_eq_false c3))
      refine bif_of (fun c4 => ?_) (fun c4 => ?_)
      · have h := h.1 (beq_t c4)
        exact h
      · have h := h.2 (beq_f c4)
        refine ⟨by decide, ?_⟩
        exact h

theorem cachetteref10_Parts.go (n1 : Int) {R : Value → World → Prop} {w : World} (h : cachetteref10_Parts.N n1 R w) : Calls Try.prog 13 #[.int .i64 n1] w fun e w' => ∃ v, e = .returned v ∧ R v w' := cachetteref10_Parts.ok n1 (cachetteref10_Parts.up n1 h)
theorem cachetteref10_Parts.run (n1 : Int) {V : Value} {Q : World → Prop} {w : World} (h : cachetteref10_Parts.N n1 (fun v w' => v = V ∧ Q w') w) : Calls Try.prog 13 #[.int .i64 n1] w (Ret V Q) := (cachetteref10_Parts.go n1 h).mono fun e w' ⟨v, he, hv, hq⟩ => ⟨by rw [he, hv], hq⟩

def cachetteref10_Parts.F (n1 : Int) : Int :=
  if n1 < 0 then
    0
  else
    if n1 > 4000 then
      0
    else
      if n1 = 0 then
        1
      else
        (IntKind.i64.wrap (Int.tdiv (IntKind.i64.wrap (n1 + 47)) 48))
theorem cachetteref10_Parts.pure (n1 : Int) {w : World} : Calls Try.prog 13 #[.int .i64 n1] w (Ret (.int .i64 (cachetteref10_Parts.F n1)) fun w' => Ext no w w') := by
  refine cachetteref10_Parts.run n1 ?_
  unfold cachetteref10_Parts.N
  refine ⟨fun c0 => ?_, fun c0 => ?_⟩
  · exact ⟨by unfold cachetteref10_Parts.F; rw [if_pos c0], Ext.refl _ _⟩
  · refine ⟨fun c1 => ?_, fun c1 => ?_⟩
    · exact ⟨by unfold cachetteref10_Parts.F; rw [if_neg (show ¬ (n1 < 0) from by omega), if_pos c1], Ext.refl _ _⟩
    · refine ⟨fun c2 => ?_, fun c2 => ?_⟩
      · exact ⟨by unfold cachetteref10_Parts.F; rw [if_neg (show ¬ (n1 < 0) from by omega), if_neg (show ¬ (n1 > 4000) from by omega), if_pos c2], Ext.refl _ _⟩
      · exact ⟨by unfold cachetteref10_Parts.F; rw [if_neg (show ¬ (n1 < 0) from by omega), if_neg (show ¬ (n1 > 4000) from by omega), if_neg c2], Ext.refl _ _⟩

/-- (*journal.sector).put -/
def journal_sector_put.M (s1 : Option Addr) (ab : Option Addr) (ac : Nat) (aa : Nat) (R : Value → World → Prop) (w : World) : Prop :=
 s1.elim False fun a3 =>
 ∃ (a5 : Option Addr) (a1 : Nat) (a4 : Nat), w.cell? a3 = some (.slice a5 a1 a4) ∧
 ∃ (a6 : Option Addr) (a8 : Nat) (a2 : Nat) (a0 : World), (Builtin.append_ #[67, 23] 67 #[.slice a5 a1 a4, .slice ab ac aa]).run Try.prog w = .ok (.slice a6 a8 a2) a0 ∧
 s1.elim False fun a7 =>
 canStore a0 (a7.add 0) ∧
 thenW (a0.setCell (a7.add 0) (.slice a6 a8 a2)) fun a9 =>
 R (.tuple #[]) a9

theorem journal_sector_put.eq (s1 : Option Addr) (l2a : Option Addr) (l2n : Nat) (l2c : Nat) (R : Value → World → Prop) (w : World) : mfunc Try.prog [] 34 [.pointer s1, .slice l2a l2n l2c] R w = journal_sector_put.M s1 l2a l2n l2c R w := by kernel_rfl
theorem journal_sector_put.ok (s1 : Option Addr) (a1 : Option Addr) (a2 : Nat) (a0 : Nat) {R : Value → World → Prop} {w : World} (h : journal_sector_put.M s1 a1 a2 a0 R w) : Calls Try.prog 34 #[.pointer s1, .slice a1 a2 a0] w fun e w' => ∃ v, e = .returned v ∧ R v w' :=
  mfunc_ok follows (H := []) (args := [.pointer s1, .slice a1 a2 a0]) (by rw [journal_sector_put.eq]; exact h)

def journal_sector_put.N (s1 : Option Addr) (ab : Option Addr) (a8 : Nat) (aa : Nat) (R : Value → World → Prop) (w : World) : Prop :=
 ∃ a3 : Addr, s1 = some a3 ∧
 ∃ (a4 : Option Addr) (a2 : Nat) (a5 : Nat), w.cell? a3 = some (.slice a4 a2 a5) ∧
 ∃ (a6 : Option Addr) (a7 : Nat) (a1 : Nat) (a0 : World), (Builtin.append_ #[67, 23] 67 #[.slice a4 a2 a5, .slice ab a8 aa]).run Try.prog w = .ok (.slice a6 a7 a1) a0 ∧
 canStore a0 (a3.add 0) ∧
 thenW (a0.setCell (a3.add 0) (.slice a6 a7 a1)) fun a9 =>
 R (.tuple #[]) a9

theorem journal_sector_put.up (s1 : Option Addr) (a4 : Option Addr) (a0 : Nat) (a1 : Nat) {R : Value → World → Prop} {w : World} (h : journal_sector_put.N s1 a4 a0 a1 R w) : journal_sector_put.M s1 a4 a0 a1 R w := by
  unfold journal_sector_put.M
  unfold journal_sector_put.N at h
  obtain ⟨a3, a2, h⟩ := h
  refine elim_some a2 ?_
  obtain ⟨a8, a6, a9, ac, h⟩ := h
  refine ⟨a8, a6, a9, ac, ?_⟩
  obtain ⟨aa, ab, a5, a7, hr, h⟩ := h
  refine ⟨aa, ab, a5, a7, hr, ?_⟩
  refine elim_some a2 ?_
  obtain ⟨hcs, h⟩ := h
  refine ⟨hcs, thenW_in fun ad e8 => ?_⟩
  replace h := thenW_out h e8
  exact h

theorem journal_sector_put.go (s1 : Option Addr) (a1 : Option Addr) (a2 : Nat) (a0 : Nat) {R : Value → World → Prop} {w : World} (h : journal_sector_put.N s1 a1 a2 a0 R w) : Calls Try.prog 34 #[.pointer s1, .slice a1 a2 a0] w fun e w' => ∃ v, e = .returned v ∧ R v w' := journal_sector_put.ok s1 a1 a2 a0 (journal_sector_put.up s1 a1 a2 a0 h)
theorem journal_sector_put.run (s1 : Option Addr) (a1 : Option Addr) (a2 : Nat) (a0 : Nat) {V : Value} {Q : World → Prop} {w : World} (h : journal_sector_put.N s1 a1 a2 a0 (fun v w' => v = V ∧ Q w') w) : Calls Try.prog 34 #[.pointer s1, .slice a1 a2 a0] w (Ret V Q) := (journal_sector_put.go s1 a1 a2 a0 h).mono fun e w' ⟨v, he, hv, hq⟩ => ⟨by rw [he, hv], hq⟩

/-- (*journal.sector).number -/
def journal_sector_number.M (s1 : Option Addr) (n2 : Int) (R : Value → World → Prop) (w : World) : Prop :=
 0 ≤ (24 : Int) ∧
 0 ≤ (16 : Int) ∧
 0 ≤ (8 : Int) ∧
 thenW (w.alloc (.cells #[.int .u8 (IntKind.u8.wrap (Int.fdiv n2 (2 ^ (min (Int.toNat 24) (IntKind.bits .u32))))), .int .u8 (IntKind.u8.wrap (Int.fdiv n2 (2 ^ (min (Int.toNat 16) (IntKind.bits .u32))))), .int .u8 (IntKind.u8.wrap (Int.fdiv n2 (2 ^ (min (Int.toNat 8) (IntKind.bits .u32))))), .int .u8 (IntKind.u8.wrap n2)] 5)) fun a2 =>
 Calls Try.prog 34 #[.pointer s1, .slice (some (blk w.heap.size)) 4 4] a2 fun a0 a1 => a0 = .returned (.tuple #[]) ∧
 R (.tuple #[]) a1

theorem journal_sector_number.eq (s1 : Option Addr) (n2 : Int) (R : Value → World → Prop) (w : World) : mfunc Try.prog [] 35 [.pointer s1, .int .u32 n2] R w = journal_sector_number.M s1 n2 R w := by kernel_rfl
theorem journal_sector_number.ok (s1 : Option Addr) (n2 : Int) {R : Value → World → Prop} {w : World} (h : journal_sector_number.M s1 n2 R w) : Calls Try.prog 35 #[.pointer s1, .int .u32 n2] w fun e w' => ∃ v, e = .returned v ∧ R v w' :=
  mfunc_ok follows (H := []) (args := [.pointer s1, .int .u32 n2]) (by rw [journal_sector_number.eq]; exact h)

def journal_sector_number.N (s1 : Option Addr) (n2 : Int) (R : Value → World → Prop) (w : World) : Prop :=
 ∀ (a0 : World) (q4 : Nat), Ext no w a0 → Blk a0 q4 5 [.int .u8 (IntKind.u8.wrap (n2 / 16777216)), .int .u8 (IntKind.u8.wrap (n2 / 65536)), .int .u8 (IntKind.u8.wrap (n2 / 256)), .int .u8 (IntKind.u8.wrap n2)] → w.heap.size ≤ q4 → q4 < a0.heap.size →
 Calls Try.prog 34 #[.pointer s1, .slice (some (blk q4)) 4 4] a0 fun a2 a1 => a2 = .returned (.tuple #[]) ∧
 R (.tuple #[]) a1

theorem journal_sector_number.up (s1 : Option Addr) (n2 : Int) {R : Value → World → Prop} {w : World} (h : journal_sector_number.N s1 n2 R w) : journal_sector_number.M s1 n2 R w := by
  unfold journal_sector_number.M
  unfold journal_sector_number.N at h
  refine ⟨by decide, ?_⟩
  try rw [show (2 ^ (min (Int.toNat 24) (IntKind.bits .u32)) : Int) = 16777216 from rfl]
  try rw [Int.fdiv_eq_ediv_of_nonneg n2 (by decide : (0 : Int) ≤ 16777216)]
  refine ⟨by decide, ?_⟩
  try rw [show (2 ^ (min (Int.toNat 16) (IntKind.bits .u32)) : Int) = 65536 from rfl]
  try rw [Int.fdiv_eq_ediv_of_nonneg n2 (by decide : (0 : Int) ≤ 65536)]
  refine ⟨by decide, ?_⟩
  try rw [show (2 ^ (min (Int.toNat 8) (IntKind.bits .u32)) : Int) = 256 from rfl]
  try rw [Int.fdiv_eq_ediv_of_nonneg n2 (by decide : (0 : Int) ≤ 256)]
  refine thenW_in fun a0 e3 => ?_
  have h := h a0 w.heap.size ((Ext.refl no w).x_alloc e3) (Blk.of_new e3) ((Ext.refl no w)).size (size_lt_alloc e3)
  refine h.mono fun a2 a1 h => ?_
  obtain ⟨he, h⟩ := h
  refine ⟨he, ?_⟩
  exact h

theorem journal_sector_number.go (s1 : Option Addr) (n2 : Int) {R : Value → World → Prop} {w : World} (h : journal_sector_number.N s1 n2 R w) : Calls Try.prog 35 #[.pointer s1, .int .u32 n2] w fun e w' => ∃ v, e = .returned v ∧ R v w' := journal_sector_number.ok s1 n2 (journal_sector_number.up s1 n2 h)
theorem journal_sector_number.run (s1 : Option Addr) (n2 : Int) {V : Value} {Q : World → Prop} {w : World} (h : journal_sector_number.N s1 n2 (fun v w' => v = V ∧ Q w') w) : Calls Try.prog 35 #[.pointer s1, .int .u32 n2] w (Ret V Q) := (journal_sector_number.go s1 n2 h).mono fun e w' ⟨v, he, hv, hq⟩ => ⟨by rw [he, hv], hq⟩

/-- (journal.sector).at -/
def journal_sector_at.M (a2 : Option Addr) (a4 : Nat) (a1 : Nat) (i2 : Int) (R : Value → World → Prop) (w : World) : Prop :=
 (0 : Int) ≤ ((IntKind.i64.wrap (i2 + 4)) : Int) ∧ ((IntKind.i64.wrap (i2 + 4)) : Int) ≤ (a1 : Int) ∧ (0 : Int) ≤ (i2 : Int) ∧ (i2 : Int) ≤ ((IntKind.i64.wrap (i2 + 4)) : Int) ∧
 ∃ (I0 : Nat → List Value → World → Prop) (m5 : Nat), I0 m5 [.int .u32 0, .int .i64 0] w ∧ ∀ (m6 : Nat) (a0 : World) (n3 : Int) (t4 : Int), I0 m6 [.int .u32 n3, .int .i64 t4] a0 →
 bif decide (t4 < (((Int.toNat (IntKind.i64.wrap (i2 + 4))) - (Int.toNat i2) : Nat) : Int)) then (
 (if a1 = Int.toNat i2 then a2 else Option.map (fun z : Addr => z.add ((Int.toNat i2) * 1)) a2).elim False fun a8 =>
 0 ≤ (t4 : Int) ∧ (t4 : Int) < (((Int.toNat (IntKind.i64.wrap (i2 + 4))) - (Int.toNat i2) : Nat) : Int) ∧
 ∃ (x9 : Int), a0.cell? (a8.add (Int.toNat t4 * 1)) = some (.int .u8 x9) ∧
 0 ≤ (8 : Int) ∧
 ∃ a3, a3 < m6 ∧ I0 a3 [.int .u32 (IntKind.u32.wrap ((BitVec.ofInt (IntKind.bits .u32) (IntKind.u32.wrap (n3 * 2 ^ (min (Int.toNat 8) (IntKind.bits .u32)))) ||| BitVec.ofInt (IntKind.bits .u32) (IntKind.u32.wrap x9)).toNat)), .int .i64 (IntKind.i64.wrap (t4 + 1))] a0) else (
 R (.int .u32 n3) a0)

theorem journal_sector_at.eq (s1a : Option Addr) (s1n : Nat) (s1c : Nat) (i2 : Int) (R : Value → World → Prop) (w : World) : mfunc Try.prog [(0, [11, 12], [(4, (.one (.int .u32))), (13, (.one (.int .i64)))])] 39 [.slice s1a s1n s1c, .int .i64 i2] R w = journal_sector_at.M s1a s1n s1c i2 R w := by kernel_rfl
theorem journal_sector_at.ok (a2 : Option Addr) (a0 : Nat) (a1 : Nat) (i2 : Int) {R : Value → World → Prop} {w : World} (h : journal_sector_at.M a2 a0 a1 i2 R w) : Calls Try.prog 39 #[.slice a2 a0 a1, .int .i64 i2] w fun e w' => ∃ v, e = .returned v ∧ R v w' :=
  mfunc_ok follows (H := [(0, [11, 12], [(4, (.one (.int .u32))), (13, (.one (.int .i64)))])]) (args := [.slice a2 a0 a1, .int .i64 i2]) (by rw [journal_sector_at.eq]; exact h)

def journal_sector_at.N (a4 : Option Addr) (a5 : Nat) (a1 : Nat) (i2 : Int) (R : Value → World → Prop) (w : World) : Prop :=
 (-9223372036854775808 : Int) ≤ (i2 + 4) ∧ (i2 + 4) < 9223372036854775808 ∧
 (0 : Int) ≤ ((i2 + 4) : Int) ∧ ((i2 + 4) : Int) ≤ (a1 : Int) ∧ (0 : Int) ≤ (i2 : Int) ∧ (i2 : Int) ≤ ((i2 + 4) : Int) ∧ 
 ∃ (I0 : Nat → List Value → World → Prop) (m5 : Nat), I0 m5 [.int .u32 0, .int .i64 0] w ∧ ∀ (m6 : Nat) (a0 : World) (n3 : Int) (t4 : Int), I0 m6 [.int .u32 n3, .int .i64 t4] a0 →
 (t4 < (((Int.toNat (i2 + 4)) - (Int.toNat i2) : Nat) : Int) →
 ∃ a9 : Addr, cutA a4 a1 (Int.toNat i2) 1 = some a9 ∧
 0 ≤ (t4 : Int) ∧ (t4 : Int) < (((Int.toNat (i2 + 4)) - (Int.toNat i2) : Nat) : Int) ∧
 ∃ (a2 : Int), a0.cell? (a9.add (Int.toNat t4 * 1)) = some (.int .u8 a2) ∧
 (-9223372036854775808 : Int) ≤ (t4 + 1) ∧ (t4 + 1) < 9223372036854775808 ∧
 ∃ a3, a3 < m6 ∧ I0 a3 [.int .u32 (IntKind.u32.wrap ((BitVec.ofInt (IntKind.bits .u32) (IntKind.u32.wrap (n3 * 256)) ||| BitVec.ofInt (IntKind.bits .u32) (IntKind.u32.wrap a2)).toNat)), .int .i64 (t4 + 1)] a0) ∧
 ((((Int.toNat (i2 + 4)) - (Int.toNat i2) : Nat) : Int) ≤ t4 →
 R (.int .u32 n3) a0)

theorem journal_sector_at.up (a7 : Option Addr) (a5 : Nat) (a6 : Nat) (i2 : Int) {R : Value → World → Prop} {w : World} (h : journal_sector_at.N a7 a5 a6 i2 R w) : journal_sector_at.M a7 a5 a6 i2 R w := by
  unfold journal_sector_at.M
  unfold journal_sector_at.N at h
  obtain ⟨a2, a4, h⟩ := h
  try rw [w64 a2 a4]
  obtain ⟨a8, a1, a0, aa, h⟩ := h
  refine ⟨a8, a1, a0, aa, ?_⟩
  obtain ⟨I0, m5, h0, h⟩ := h
  refine ⟨I0, m5, h0, fun m6 ab n3 t4 hI => ?_⟩
  have h := h m6 ab n3 t4 hI
  refine bif_of (fun c8 => ?_) (fun c8 => ?_)
  · have h := h.1 (of_decide_eq_true c8)
    obtain ⟨a9, ac, h⟩ := h
    refine elim_some ac ?_
    obtain ⟨a1, a0, h⟩ := h
    refine ⟨a1, a0, ?_⟩
    obtain ⟨ad, a3, h⟩ := h
    refine ⟨ad, a3, ?_⟩
    refine ⟨by decide, ?_⟩
    try rw [show (2 ^ (min (Int.toNat 8) (IntKind.bits .u32)) : Int) = 256 from rfl]
    obtain ⟨a2, a4, h⟩ := h
    try rw [w64 a2 a4]
    obtain ⟨ae, hk, h⟩ := h
    exact ⟨ae, hk, h⟩
  · have h := h.2 (Int.not_lt.1 (of_decide_eq_false c8))
    exact h

theorem journal_sector_at.go (a2 : Option Addr) (a0 : Nat) (a1 : Nat) (i2 : Int) {R : Value → World → Prop} {w : World} (h : journal_sector_at.N a2 a0 a1 i2 R w) : Calls Try.prog 39 #[.slice a2 a0 a1, .int .i64 i2] w fun e w' => ∃ v, e = .returned v ∧ R v w' := journal_sector_at.ok a2 a0 a1 i2 (journal_sector_at.up a2 a0 a1 i2 h)
theorem journal_sector_at.run (a2 : Option Addr) (a0 : Nat) (a1 : Nat) (i2 : Int) {V : Value} {Q : World → Prop} {w : World} (h : journal_sector_at.N a2 a0 a1 i2 (fun v w' => v = V ∧ Q w') w) : Calls Try.prog 39 #[.slice a2 a0 a1, .int .i64 i2] w (Ret V Q) := (journal_sector_at.go a2 a0 a1 i2 h).mono fun e w' ⟨v, he, hv, hq⟩ => ⟨by rw [he, hv], hq⟩

/-- (journal.sector).is -/
def journal_sector_is.M (a1 : Option Addr) (a0 : Nat) (a3 : Nat) (R : Value → World → Prop) (w : World) : Prop :=
 bif (a0 : Int) == 64 then (
 a1.elim False fun a2 =>
 0 ≤ (0 : Int) ∧ (0 : Int) < (a0 : Int) ∧
 ∃ (x3 : Int), w.cell? (a2.add (Int.toNat 0 * 1)) = some (.int .u8 x3) ∧
 R (.bool (x3 == 197)) w) else (
 R (.bool false) w)

theorem journal_sector_is.eq (s1a : Option Addr) (s1n : Nat) (s1c : Nat) (R : Value → World → Prop) (w : World) : mfunc Try.prog [] 38 [.slice s1a s1n s1c] R w = journal_sector_is.M s1a s1n s1c R w := by kernel_rfl
theorem journal_sector_is.ok (a2 : Option Addr) (a0 : Nat) (a1 : Nat) {R : Value → World → Prop} {w : World} (h : journal_sector_is.M a2 a0 a1 R w) : Calls Try.prog 38 #[.slice a2 a0 a1] w fun e w' => ∃ v, e = .returned v ∧ R v w' :=
  mfunc_ok follows (H := []) (args := [.slice a2 a0 a1]) (by rw [journal_sector_is.eq]; exact h)

def journal_sector_is.N (a1 : Option Addr) (a0 : Nat) (a2 : Nat) (R : Value → World → Prop) (w : World) : Prop :=
 ((a0 : Int) = 64 →
 ∃ a3 : Addr, a1 = some a3 ∧
 (0 : Int) < (a0 : Int) ∧
 ∃ (x5 : Int), w.cell? (a3.add (Int.toNat 0 * 1)) = some (.int .u8 x5) ∧
 R (.bool (x5 == 197)) w) ∧
 ((a0 : Int) ≠ 64 →
 R (.bool false) w)

theorem journal_sector_is.up (a2 : Option Addr) (a0 : Nat) (a1 : Nat) {R : Value → World → Prop} {w : World} (h : journal_sector_is.N a2 a0 a1 R w) : journal_sector_is.M a2 a0 a1 R w := by
  unfold journal_sector_is.M
  unfold journal_sector_is.N at h
  refine bif_of (fun c2 => ?_) (fun c2 => ?_)
  · have h := h.1 (beq_t c2)
    obtain ⟨a3, a4, h⟩ := h
    refine elim_some a4 ?_
    obtain ⟨a5, h⟩ := h
    refine ⟨by decide, a5, ?_⟩
    obtain ⟨x5, a6, h⟩ := h
    refine ⟨x5, a6, ?_⟩
    exact h
  · have h := h.2 (beq_f c2)
    exact h

theorem journal_sector_is.go (a2 : Option Addr) (a0 : Nat) (a1 : Nat) {R : Value → World → Prop} {w : World} (h : journal_sector_is.N a2 a0 a1 R w) : Calls Try.prog 38 #[.slice a2 a0 a1] w fun e w' => ∃ v, e = .returned v ∧ R v w' := journal_sector_is.ok a2 a0 a1 (journal_sector_is.up a2 a0 a1 h)
theorem journal_sector_is.run (a2 : Option Addr) (a0 : Nat) (a1 : Nat) {V : Value} {Q : World → Prop} {w : World} (h : journal_sector_is.N a2 a0 a1 (fun v w' => v = V ∧ Q w') w) : Calls Try.prog 38 #[.slice a2 a0 a1] w (Ret V Q) := (journal_sector_is.go a2 a0 a1 h).mono fun e w' ⟨v, he, hv, hq⟩ => ⟨by rw [he, hv], hq⟩

/-- journal.Frame -/
def journal_Frame.M (aj : Int) (a5 : Int) (b3 : Int) (b7 : Option Addr) (a6 : Nat) (ay : Nat) (R : Value → World → Prop) (w : World) : Prop :=
 Calls Try.prog 12 #[.int .i64 (a6 : Int)] w fun b8 am => ∃ (a1 : Int), b8 = .returned (.int .i64 a1) ∧
 bif a1 == 0 then (
 R (.tuple #[.slice none 0 0, .int .i64 3]) am) else (
 bif aj == 0 then (
 R (.tuple #[.slice none 0 0, .int .i64 1]) am) else (
 bif a5 == 0 then (
 R (.tuple #[.slice none 0 0, .int .i64 1]) am) else (
 ∃ (I1 : Nat → List Value → World → Prop) (b9 : Nat), I1 b9 [.slice none 0 0, .int .i64 0] am ∧ ∀ (b5 : Nat) (a8 : World) (a2 : Option Addr) (a3 : Nat) (a4 : Nat) (t9 : Int), I1 b5 [.slice a2 a3 a4, .int .i64 t9] a8 →
 bif decide (t9 < a1) then (
 (0 : Int) ≤ ((if ((a6 : Int) : Int) < (IntKind.i64.wrap ((48 : Int) * (IntKind.i64.wrap (t9 + 1)))) then (a6 : Int) else (IntKind.i64.wrap ((48 : Int) * (IntKind.i64.wrap (t9 + 1))))) : Int) ∧ ((if ((a6 : Int) : Int) < (IntKind.i64.wrap ((48 : Int) * (IntKind.i64.wrap (t9 + 1)))) then (a6 : Int) else (IntKind.i64.wrap ((48 : Int) * (IntKind.i64.wrap (t9 + 1))))) : Int) ≤ (ay : Int) ∧ (0 : Int) ≤ ((IntKind.i64.wrap ((48 : Int) * t9)) : Int) ∧ ((IntKind.i64.wrap ((48 : Int) * t9)) : Int) ≤ ((if ((a6 : Int) : Int) < (IntKind.i64.wrap ((48 : Int) * (IntKind.i64.wrap (t9 + 1)))) then (a6 : Int) else (IntKind.i64.wrap ((48 : Int) * (IntKind.i64.wrap (t9 + 1))))) : Int) ∧
 ∃ (ad : Option Addr) (ae : Nat) (ai : Nat) (a0 : World), (Instr.makeSlice 67 (.int .i64 0) (.int .i64 64)).run Try.prog a8 = .ok (.slice ad ae ai) a0 ∧
 thenW (a0.alloc (.cells #[.slice none 0 0] 67)) fun ah =>
 canStore ah ((blk a0.heap.size).add 0) ∧
 thenW (ah.setCell ((blk a0.heap.size).add 0) (.slice ad ae ai)) fun ag =>
 thenW (ag.alloc (.cells #[.int .u8 197] 5)) fun b0 =>
 Calls Try.prog 34 #[.pointer (some (blk a0.heap.size)), .slice (some (blk ag.heap.size)) 1 1] b0 fun aw ap => aw = .returned (.tuple #[]) ∧
 Calls Try.prog 35 #[.pointer (some (blk a0.heap.size)), .int .u32 aj] ap fun au ar => au = .returned (.tuple #[]) ∧
 Calls Try.prog 35 #[.pointer (some (blk a0.heap.size)), .int .u32 a5] ar fun b4 b1 => b4 = .returned (.tuple #[]) ∧
 Calls Try.prog 35 #[.pointer (some (blk a0.heap.size)), .int .u32 b3] b1 fun az ak => az = .returned (.tuple #[]) ∧
 thenW (ak.alloc (.cells #[.int .u8 (IntKind.u8.wrap t9), .int .u8 (IntKind.u8.wrap a1), .int .u8 (IntKind.u8.wrap (((Int.toNat (if ((a6 : Int) : Int) < (IntKind.i64.wrap ((48 : Int) * (IntKind.i64.wrap (t9 + 1)))) then (a6 : Int) else (IntKind.i64.wrap ((48 : Int) * (IntKind.i64.wrap (t9 + 1)))))) - (Int.toNat (IntKind.i64.wrap ((48 : Int) * t9))) : Nat) : Int))] 5)) fun ax =>
 Calls Try.prog 34 #[.pointer (some (blk a0.heap.size)), .slice (some (blk ak.heap.size)) 3 3] ax fun ao an => ao = .returned (.tuple #[]) ∧
 Calls Try.prog 34 #[.pointer (some (blk a0.heap.size)), .slice (if ay = Int.toNat (IntKind.i64.wrap ((48 : Int) * t9)) then b7 else Option.map (fun z : Addr => z.add ((Int.toNat (IntKind.i64.wrap ((48 : Int) * t9))) * 1)) b7) ((Int.toNat (if ((a6 : Int) : Int) < (IntKind.i64.wrap ((48 : Int) * (IntKind.i64.wrap (t9 + 1)))) then (a6 : Int) else (IntKind.i64.wrap ((48 : Int) * (IntKind.i64.wrap (t9 + 1)))))) - (Int.toNat (IntKind.i64.wrap ((48 : Int) * t9)))) (ay - (Int.toNat (IntKind.i64.wrap ((48 : Int) * t9))))] an fun b2 aa => b2 = .returned (.tuple #[]) ∧
 ∃ (a9 : Option Addr) (aq : Nat) (a7 : Nat), aa.cell? (blk a0.heap.size) = some (.slice a9 aq a7) ∧
 (0 : Int) ≤ (64 : Int) ∧ (64 : Int) ≤ (a7 : Int) ∧
 thenW (aa.alloc (.cells #[.slice (if a7 = 0 then a9 else Option.map (fun z : Addr => z.add (0 * 1)) a9) ((Int.toNat 64) - 0) (a7 - 0)] 23)) fun av =>
 ∃ (ab : Option Addr) (al : Nat) (ac : Nat) (af : World), (Builtin.append_ #[25, 25] 25 #[.slice a2 a3 a4, .slice (some (blk aa.heap.size)) 1 1]).run Try.prog av = .ok (.slice ab al ac) af ∧
 ∃ b6, b6 < b5 ∧ I1 b6 [.slice ab al ac, .int .i64 (IntKind.i64.wrap (t9 + 1))] af) else (
 R (.tuple #[.slice a2 a3 a4, .int .i64 0]) a8))))

theorem journal_Frame.eq (gen1 : Int) (round2 : Int) (seq3 : Int) (b4a : Option Addr) (b4n : Nat) (b4c : Nat) (R : Value → World → Prop) (w : World) : mfunc Try.prog [(1, [0, 1, 2, 3, 10, 28], [(8, (.one .slice)), (29, (.one (.int .i64)))])] 9 [.int .u32 gen1, .int .u32 round2, .int .u32 seq3, .slice b4a b4n b4c] R w = journal_Frame.M gen1 round2 seq3 b4a b4n b4c R w := by kernel_rfl
theorem journal_Frame.ok (a1 : Int) (a0 : Int) (a2 : Int) (a5 : Option Addr) (a4 : Nat) (a3 : Nat) {R : Value → World → Prop} {w : World} (h : journal_Frame.M a1 a0 a2 a5 a4 a3 R w) : Calls Try.prog 9 #[.int .u32 a1, .int .u32 a0, .int .u32 a2, .slice a5 a4 a3] w fun e w' => ∃ v, e = .returned v ∧ R v w' :=
  mfunc_ok follows (H := [(1, [0, 1, 2, 3, 10, 28], [(8, (.one .slice)), (29, (.one (.int .i64)))])]) (args := [.int .u32 a1, .int .u32 a0, .int .u32 a2, .slice a5 a4 a3]) (by rw [journal_Frame.eq]; exact h)

def journal_Frame.N (ag : Int) (a3 : Int) (b7 : Int) (bc : Option Addr) (a4 : Nat) (b3 : Nat) (R : Value → World → Prop) (w : World) : Prop :=
 ((journal_Parts.F (a4 : Int)) = 0 →
 ∀ (a7 : World), Ext no w a7 →
 R (.tuple #[.slice none 0 0, .int .i64 3]) a7) ∧
 ((journal_Parts.F (a4 : Int)) ≠ 0 →
 (ag = 0 →
 ∀ (a7 : World), Ext no w a7 →
 R (.tuple #[.slice none 0 0, .int .i64 1]) a7) ∧
 (ag ≠ 0 →
 (a3 = 0 →
 ∀ (a7 : World), Ext no w a7 →
 R (.tuple #[.slice none 0 0, .int .i64 1]) a7) ∧
 (a3 ≠ 0 →
 ∀ (a7 : World), Ext no w a7 →
 ∃ (I1 : Nat → List Value → World → Prop) (bb : Nat), I1 bb [.slice none 0 0, .int .i64 0] a7 ∧ ∀ (ba : Nat) (ad : World) (a2 : Option Addr) (a5 : Nat) (a1 : Nat) (a0 : Int), I1 ba [.slice a2 a5 a1, .int .i64 a0] ad →
 (a0 < (journal_Parts.F (a4 : Int)) →
 (-9223372036854775808 : Int) ≤ ((48 : Int) * a0) ∧ ((48 : Int) * a0) < 9223372036854775808 ∧
 (-9223372036854775808 : Int) ≤ (a0 + 1) ∧ (a0 + 1) < 9223372036854775808 ∧
 (-9223372036854775808 : Int) ≤ ((48 : Int) * (a0 + 1)) ∧ ((48 : Int) * (a0 + 1)) < 9223372036854775808 ∧
 (0 : Int) ≤ ((if ((a4 : Int) : Int) < ((48 : Int) * (a0 + 1)) then (a4 : Int) else ((48 : Int) * (a0 + 1))) : Int) ∧ ((if ((a4 : Int) : Int) < ((48 : Int) * (a0 + 1)) then (a4 : Int) else ((48 : Int) * (a0 + 1))) : Int) ≤ (b3 : Int) ∧ (0 : Int) ≤ (((48 : Int) * a0) : Int) ∧ (((48 : Int) * a0) : Int) ≤ ((if ((a4 : Int) : Int) < ((48 : Int) * (a0 + 1)) then (a4 : Int) else ((48 : Int) * (a0 + 1))) : Int) ∧ 
 ∃ (ak : Option Addr) (ai : Nat) (an : Nat) (af : World), (Instr.makeSlice 67 (.int .i64 0) (.int .i64 64)).run Try.prog ad = .ok (.slice ak ai an) af ∧
 ∀ (a8 : World) (a6 : Nat), Ext no af a8 → Blk a8 a6 67 [.slice none 0 0] → af.heap.size ≤ a6 → a6 < a8.heap.size →
 canStore a8 ((blk a6).add 0) ∧
 thenW (a8.setCell ((blk a6).add 0) (.slice ak ai an)) fun ah =>
 ∀ (a9 : World) (au : Nat), Ext no ah a9 → Blk a9 au 5 [.int .u8 197] → ah.heap.size ≤ au → au < a9.heap.size →
 Calls Try.prog 34 #[.pointer (some (blk a6)), .slice (some (blk au)) 1 1] a9 fun b8 b6 => b8 = .returned (.tuple #[]) ∧
 Calls Try.prog 35 #[.pointer (some (blk a6)), .int .u32 ag] b6 fun b4 b5 => b4 = .returned (.tuple #[]) ∧
 Calls Try.prog 35 #[.pointer (some (blk a6)), .int .u32 a3] b5 fun az b1 => az = .returned (.tuple #[]) ∧
 Calls Try.prog 35 #[.pointer (some (blk a6)), .int .u32 b7] b1 fun ax al => ax = .returned (.tuple #[]) ∧
 ∀ (aa : World) (av : Nat), Ext no al aa → Blk aa av 5 [.int .u8 (IntKind.u8.wrap a0), .int .u8 (IntKind.u8.wrap (journal_Parts.F (a4 : Int))), .int .u8 (IntKind.u8.wrap (((Int.toNat (if ((a4 : Int) : Int) < ((48 : Int) * (a0 + 1)) then (a4 : Int) else ((48 : Int) * (a0 + 1)))) - (Int.toNat ((48 : Int) * a0)) : Nat) : Int))] → al.heap.size ≤ av → av < aa.heap.size →
 Calls Try.prog 34 #[.pointer (some (blk a6)), .slice (some (blk av)) 3 3] aa fun b0 ay => b0 = .returned (.tuple #[]) ∧
 Calls Try.prog 34 #[.pointer (some (blk a6)), .slice (cutA bc b3 (Int.toNat ((48 : Int) * a0)) 1) ((Int.toNat (if ((a4 : Int) : Int) < ((48 : Int) * (a0 + 1)) then (a4 : Int) else ((48 : Int) * (a0 + 1)))) - (Int.toNat ((48 : Int) * a0))) (b3 - (Int.toNat ((48 : Int) * a0)))] ay fun b2 ae => b2 = .returned (.tuple #[]) ∧
 ∃ (aj : Option Addr) (aw : Nat) (ac : Nat), ae.cell? (blk a6) = some (.slice aj aw ac) ∧
 (64 : Int) ≤ (ac : Int) ∧ 
 ∀ (ab : World) (ar : Nat), Ext no ae ab → Blk ab ar 23 [.slice aj 64 ac] → ae.heap.size ≤ ar → ar < ab.heap.size →
 ∃ (aq : Option Addr) (am : Nat) (ao : Nat) (ap : World), (Builtin.append_ #[25, 25] 25 #[.slice a2 a5 a1, .slice (some (blk ar)) 1 1]).run Try.prog ab = .ok (.slice aq am ao) ap ∧
 (-9223372036854775808 : Int) ≤ (a0 + 1) ∧ (a0 + 1) < 9223372036854775808 ∧
 ∃ b9, b9 < ba ∧ I1 b9 [.slice aq am ao, .int .i64 (a0 + 1)] ap) ∧
 ((journal_Parts.F (a4 : Int)) ≤ a0 →
 R (.tuple #[.slice a2 a5 a1, .int .i64 0]) ad))))

theorem journal_Frame.up (aa : Int) (a0 : Int) (ab : Int) (b3 : Option Addr) (ad : Nat) (b2 : Nat) {R : Value → World → Prop} {w : World} (h : journal_Frame.N aa a0 ab b3 ad b2 R w) : journal_Frame.M aa a0 ab b3 ad b2 R w := by
  unfold journal_Frame.M
  unfold journal_Frame.N at h
  refine (journal_Parts.pure (ad : Int)).mono fun ee ww5 ⟨he, hxx⟩ => ⟨(journal_Parts.F (ad : Int)), he, ?_⟩
  have ac := (Ext.refl no w).trans hxx
  refine bif_of (fun c6 => ?_) (fun c6 => ?_)
  · have h := h.1 (beq_t c6)
    have h := h ww5 ac
    exact h
  · have h := h.2 (beq_f c6)
    refine bif_of (fun c7 => ?_) (fun c7 => ?_)
    · have h := h.1 (beq_t c7)
      have h := h ww5 ac
      exact h
    · have h := h.2 (beq_f c7)
      refine bif_of (fun c8 => ?_) (fun c8 => ?_)
      · have h := h.1 (beq_t c8)
        have h := h ww5 ac
        exact h
      · have h := h.2 (beq_f c8)
        have h := h ww5 ac
        obtain ⟨I1, b9, h0, h⟩ := h
        refine ⟨I1, b9, h0, fun ba aj a5 a8 a4 bk hI => ?_⟩
        have h := h ba aj a5 a8 a4 bk hI
        refine bif_of (fun ar => ?_) (fun ar => ?_)
        · have h := h.1 (of_decide_eq_true ar)
          obtain ⟨a9, a3, h⟩ := h
          try rw [w64 a9 a3]
          obtain ⟨a9, a3, h⟩ := h
          try rw [w64 a9 a3]
          obtain ⟨a9, a3, h⟩ := h
          try rw [w64 a9 a3]
          obtain ⟨b4, ah, bc, b5, h⟩ := h
          refine ⟨b4, ah, bc, b5, ?_⟩
          obtain ⟨am, ai, ao, a1, hr, h⟩ := h
          refine ⟨am, ai, ao, a1, hr, ?_⟩
          refine thenW_in fun an aq => ?_
          have h := h an a1.heap.size ((Ext.refl no a1).x_alloc aq) (Blk.of_new aq) ((Ext.refl no a1)).size (size_lt_alloc aq)
          obtain ⟨hcs, h⟩ := h
          refine ⟨hcs, thenW_in fun a2 bh => ?_⟩
          replace h := thenW_out h bh
          refine thenW_in fun au ae => ?_
          have h := h au a2.heap.size ((Ext.refl no a2).x_alloc ae) (Blk.of_new ae) ((Ext.refl no a2)).size (size_lt_alloc ae)
          refine h.mono fun bl bi h => ?_
          obtain ⟨he, h⟩ := h
          refine ⟨he, ?_⟩
          refine h.mono fun be bj h => ?_
          obtain ⟨he, h⟩ := h
          refine ⟨he, ?_⟩
          refine h.mono fun bb bf h => ?_
          obtain ⟨he, h⟩ := h
          refine ⟨he, ?_⟩
          refine h.mono fun b6 a7 h => ?_
          obtain ⟨he, h⟩ := h
          refine ⟨he, ?_⟩
          refine thenW_in fun aw ag => ?_
          have h := h aw a7.heap.size ((Ext.refl no a7).x_alloc ag) (Blk.of_new ag) ((Ext.refl no a7)).size (size_lt_alloc ag)
          refine h.mono fun bd b7 h => ?_
          obtain ⟨he, h⟩ := h
          refine ⟨he, ?_⟩
          refine h.mono fun bg a6 h => ?_
          obtain ⟨he, h⟩ := h
          refine ⟨he, ?_⟩
          obtain ⟨al, af, ak, ax, h⟩ := h
          refine ⟨al, af, ak, ax, ?_⟩
          obtain ⟨ah, h⟩ := h
          refine ⟨by decide, ah, ?_⟩
          try rw [cut_zero]
          refine thenW_in fun b1 ay => ?_
          have h := h b1 a6.heap.size ((Ext.refl no a6).x_alloc ay) (Blk.of_new ay) ((Ext.refl no a6)).size (size_lt_alloc ay)
          obtain ⟨b0, ap, av, az, hr, h⟩ := h
          refine ⟨b0, ap, av, az, hr, ?_⟩
          obtain ⟨a9, a3, h⟩ := h
          try rw [w64 a9 a3]
          obtain ⟨b8, hk, h⟩ := h
          exact ⟨b8, hk, h⟩
        · have h := h.2 (Int.not_lt.1 (of_decide_eq_false ar))
          exact h

theorem journal_Frame.go (a1 : Int) (a0 : Int) (a2 : Int) (a5 : Option Addr) (a4 : Nat) (a3 : Nat) {R : Value → World → Prop} {w : World} (h : journal_Frame.N a1 a0 a2 a5 a4 a3 R w) : Calls Try.prog 9 #[.int .u32 a1, .int .u32 a0, .int .u32 a2, .slice a5 a4 a3] w fun e w' => ∃ v, e = .returned v ∧ R v w' := journal_Frame.ok a1 a0 a2 a5 a4 a3 (journal_Frame.up a1 a0 a2 a5 a4 a3 h)
/-- cachetteref10.four -/
def cachetteref10_four.M (n1 : Int) (R : Value → World → Prop) (w : World) : Prop :=
 16777216 ≠ (0 : Int) ∧ 65536 ≠ (0 : Int) ∧ 256 ≠ (0 : Int) ∧ 256 ≠ (0 : Int) ∧ 256 ≠ (0 : Int) ∧ 256 ≠ (0 : Int) ∧ thenW (w.alloc (.cells #[.int .u8 (IntKind.u8.wrap (IntKind.u32.wrap (Int.tdiv n1 16777216))), .int .u8 (IntKind.u8.wrap (Int.tmod (IntKind.u32.wrap (Int.tdiv n1 65536)) 256)), .int .u8 (IntKind.u8.wrap (Int.tmod (IntKind.u32.wrap (Int.tdiv n1 256)) 256)), .int .u8 (IntKind.u8.wrap (Int.tmod n1 256))] 5)) fun a0 =>
 R (.slice (some (blk w.heap.size)) 4 4) a0

theorem cachetteref10_four.eq (n1 : Int) (R : Value → World → Prop) (w : World) : mfunc Try.prog [] 36 [.int .u32 n1] R w = cachetteref10_four.M n1 R w := by kernel_rfl
theorem cachetteref10_four.ok (n1 : Int) {R : Value → World → Prop} {w : World} (h : cachetteref10_four.M n1 R w) : Calls Try.prog 36 #[.int .u32 n1] w fun e w' => ∃ v, e = .returned v ∧ R v w' :=
  mfunc_ok follows (H := []) (args := [.int .u32 n1]) (by rw [cachetteref10_four.eq]; exact h)

def cachetteref10_four.N (n1 : Int) (R : Value → World → Prop) (w : World) : Prop :=
 ∀ (a0 : World) (q3 : Nat), Ext no w a0 → Blk a0 q3 5 [.int .u8 (IntKind.u8.wrap (IntKind.u32.wrap (Int.tdiv n1 16777216))), .int .u8 (IntKind.u8.wrap (Int.tmod (IntKind.u32.wrap (Int.tdiv n1 65536)) 256)), .int .u8 (IntKind.u8.wrap (Int.tmod (IntKind.u32.wrap (Int.tdiv n1 256)) 256)), .int .u8 (IntKind.u8.wrap (Int.tmod n1 256))] → w.heap.size ≤ q3 → q3 < a0.heap.size →
 R (.slice (some (blk q3)) 4 4) a0

theorem cachetteref10_four.up (n1 : Int) {R : Value → World → Prop} {w : World} (h : cachetteref10_four.N n1 R w) : cachetteref10_four.M n1 R w := by
  unfold cachetteref10_four.M
  unfold cachetteref10_four.N at h
  refine ⟨by decide, ?_⟩
  refine ⟨by decide, ?_⟩
  refine ⟨by decide, ?_⟩
  refine ⟨by decide, ?_⟩
  refine ⟨by decide, ?_⟩
  refine ⟨by decide, ?_⟩
  refine thenW_in fun a0 e2 => ?_
  have h := h a0 w.heap.size ((Ext.refl no w).x_alloc e2) (Blk.of_new e2) ((Ext.refl no w)).size (size_lt_alloc e2)
  exact h

theorem cachetteref10_four.go (n1 : Int) {R : Value → World → Prop} {w : World} (h : cachetteref10_four.N n1 R w) : Calls Try.prog 36 #[.int .u32 n1] w fun e w' => ∃ v, e = .returned v ∧ R v w' := cachetteref10_four.ok n1 (cachetteref10_four.up n1 h)
/-- cachetteref10.Frame -/
def cachetteref10_Frame.M (b7 : Int) (ae : Int) (bo : Int) (bv : Option Addr) (ad : Nat) (bk : Nat) (R : Value → World → Prop) (w : World) : Prop :=
 bif decide ((ad : Int) > 4000) then (
 R (.tuple #[.slice none 0 0, .int .i64 3]) w) else (
 bif b7 == 0 then (
 R (.tuple #[.slice none 0 0, .int .i64 1]) w) else (
 bif ae == 0 then (
 R (.tuple #[.slice none 0 0, .int .i64 1]) w) else (
 Calls Try.prog 13 #[.int .i64 (ad : Int)] w fun bw bx => ∃ (a0 : Int), bw = .returned (.int .i64 a0) ∧
 ∃ (I0 : Nat → List Value → World → Prop) (bz : Nat), I0 bz [.slice none 0 0, .int .i64 0] bx ∧ ∀ (br : Nat) (ag : World) (a1 : Option Addr) (a2 : Nat) (a3 : Nat) (i9 : Int), I0 br [.slice a1 a2 a3, .int .i64 i9] ag →
 bif decide (i9 < a0) then (
 (0 : Int) ≤ ((if ((ad : Int) : Int) < (IntKind.i64.wrap ((IntKind.i64.wrap ((48 : Int) * i9)) + 48)) then (ad : Int) else (IntKind.i64.wrap ((IntKind.i64.wrap ((48 : Int) * i9)) + 48))) : Int) ∧ ((if ((ad : Int) : Int) < (IntKind.i64.wrap ((IntKind.i64.wrap ((48 : Int) * i9)) + 48)) then (ad : Int) else (IntKind.i64.wrap ((IntKind.i64.wrap ((48 : Int) * i9)) + 48))) : Int) ≤ (bk : Int) ∧ (0 : Int) ≤ ((IntKind.i64.wrap ((48 : Int) * i9)) : Int) ∧ ((IntKind.i64.wrap ((48 : Int) * i9)) : Int) ≤ ((if ((ad : Int) : Int) < (IntKind.i64.wrap ((IntKind.i64.wrap ((48 : Int) * i9)) + 48)) then (ad : Int) else (IntKind.i64.wrap ((IntKind.i64.wrap ((48 : Int) * i9)) + 48))) : Int) ∧
 thenW (ag.alloc (.cells #[.int .u8 197] 5)) fun bi =>
 Calls Try.prog 36 #[.int .u32 b7] bi fun bq bm => ∃ (a7 : Option Addr) (a8 : Nat) (a5 : Nat), bq = .returned (.slice a7 a8 a5) ∧
 ∃ (bc : Option Addr) (av : Nat) (b1 : Nat) (ba : World), (Builtin.append_ #[23, 23] 23 #[.slice (some (blk ag.heap.size)) 1 1, .slice a7 a8 a5]).run Try.prog bm = .ok (.slice bc av b1) ba ∧
 Calls Try.prog 36 #[.int .u32 ae] ba fun bh bf => ∃ (ab : Option Addr) (aa : Nat) (a4 : Nat), bh = .returned (.slice ab aa a4) ∧
 ∃ (b4 : Option Addr) (b0 : Nat) (be : Nat) (b8 : World), (Builtin.append_ #[23, 23] 23 #[.slice bc av b1, .slice ab aa a4]).run Try.prog bf = .ok (.slice b4 b0 be) b8 ∧
 Calls Try.prog 36 #[.int .u32 bo] b8 fun bl bj => ∃ (a9 : Option Addr) (a6 : Nat) (ac : Nat), bl = .returned (.slice a9 a6 ac) ∧
 ∃ (al : Option Addr) (au : Nat) (b9 : Nat) (ai : World), (Builtin.append_ #[23, 23] 23 #[.slice b4 b0 be, .slice a9 a6 ac]).run Try.prog bj = .ok (.slice al au b9) ai ∧
 thenW (ai.alloc (.cells #[.int .u8 (IntKind.u8.wrap i9), .int .u8 (IntKind.u8.wrap a0), .int .u8 (IntKind.u8.wrap (((Int.toNat (if ((ad : Int) : Int) < (IntKind.i64.wrap ((IntKind.i64.wrap ((48 : Int) * i9)) + 48)) then (ad : Int) else (IntKind.i64.wrap ((IntKind.i64.wrap ((48 : Int) * i9)) + 48)))) - (Int.toNat (IntKind.i64.wrap ((48 : Int) * i9))) : Nat) : Int))] 5)) fun bn =>
 ∃ (ao : Option Addr) (aq : Nat) (bb : Nat) (b2 : World), (Builtin.append_ #[23, 23] 23 #[.slice al au b9, .slice (some (blk ai.heap.size)) 3 3]).run Try.prog bn = .ok (.slice ao aq bb) b2 ∧
 ∃ (aw : Option Addr) (ar : Nat) (am : Nat) (ap : World), (Builtin.append_ #[23, 23] 23 #[.slice ao aq bb, .slice (if bk = Int.toNat (IntKind.i64.wrap ((48 : Int) * i9)) then bv else Option.map (fun z : Addr => z.add ((Int.toNat (IntKind.i64.wrap ((48 : Int) * i9))) * 1)) bv) ((Int.toNat (if ((ad : Int) : Int) < (IntKind.i64.wrap ((IntKind.i64.wrap ((48 : Int) * i9)) + 48)) then (ad : Int) else (IntKind.i64.wrap ((IntKind.i64.wrap ((48 : Int) * i9)) + 48)))) - (Int.toNat (IntKind.i64.wrap ((48 : Int) * i9)))) (bk - (Int.toNat (IntKind.i64.wrap ((48 : Int) * i9))))]).run Try.prog b2 = .ok (.slice aw ar am) ap ∧
 ∃ (I2 : Nat → List Value → World → Prop) (c0 : Nat), I2 c0 [.slice aw ar am] ap ∧ ∀ (bu : Nat) (af : World) (aj : Option Addr) (ah : Nat) (ak : Nat), I2 bu [.slice aj ah ak] af →
 bif decide ((ah : Int) < 64) then (
 thenW (af.alloc (.cells #[.int .u8 0] 5)) fun bp =>
 ∃ (b5 : Option Addr) (ay : Nat) (b3 : Nat) (an : World), (Builtin.append_ #[23, 23] 23 #[.slice aj ah ak, .slice (some (blk af.heap.size)) 1 1]).run Try.prog bp = .ok (.slice b5 ay b3) an ∧
 ∃ bs, bs < bu ∧ I2 bs [.slice b5 ay b3] an) else (
 thenW (af.alloc (.cells #[.slice aj ah ak] 23)) fun bg =>
 ∃ (b6 : Option Addr) (ax : Nat) (bd : Nat) (az : World), (Builtin.append_ #[25, 25] 25 #[.slice a1 a2 a3, .slice (some (blk af.heap.size)) 1 1]).run Try.prog bg = .ok (.slice b6 ax bd) az ∧
 ∃ bt, bt < br ∧ I0 bt [.slice b6 ax bd, .int .i64 (IntKind.i64.wrap (i9 + 1))] az)) else (
 R (.tuple #[.slice a1 a2 a3, .int .i64 0]) ag))))

theorem cachetteref10_Frame.eq (gen1 : Int) (round2 : Int) (seq3 : Int) (b4a : Option Addr) (b4n : Nat) (b4c : Nat) (R : Value → World → Prop) (w : World) : mfunc Try.prog [(0, [0, 1, 2, 3, 11], [(10, (.one .slice)), (12, (.one (.int .i64)))]), (2, [0, 1, 2, 3, 10, 11, 12], [(14, (.one .slice))])] 10 [.int .u32 gen1, .int .u32 round2, .int .u32 seq3, .slice b4a b4n b4c] R w = cachetteref10_Frame.M gen1 round2 seq3 b4a b4n b4c R w := by kernel_rfl
theorem cachetteref10_Frame.ok (a1 : Int) (a0 : Int) (a2 : Int) (a5 : Option Addr) (a4 : Nat) (a3 : Nat) {R : Value → World → Prop} {w : World} (h : cachetteref10_Frame.M a1 a0 a2 a5 a4 a3 R w) : Calls Try.prog 10 #[.int .u32 a1, .int .u32 a0, .int .u32 a2, .slice a5 a4 a3] w fun e w' => ∃ v, e = .returned v ∧ R v w' :=
  mfunc_ok follows (H := [(0, [0, 1, 2, 3, 11], [(10, (.one .slice)), (12, (.one (.int .i64)))]), (2, [0, 1, 2, 3, 10, 11, 12], [(14, (.one .slice))])]) (args := [.int .u32 a1, .int .u32 a0, .int .u32 a2, .slice a5 a4 a3]) (by rw [cachetteref10_Frame.eq]; exact h)

def cachetteref10_Frame.N (ap : Int) (a3 : Int) (bu : Int) (c2 : Option Addr) (a4 : Nat) (br : Nat) (R : Value → World → Prop) (w : World) : Prop :=
 ((a4 : Int) > 4000 →
 R (.tuple #[.slice none 0 0, .int .i64 3]) w) ∧
 ((a4 : Int) ≤ 4000 →
 (ap = 0 →
 R (.tuple #[.slice none 0 0, .int .i64 1]) w) ∧
 (ap ≠ 0 →
 (a3 = 0 →
 R (.tuple #[.slice none 0 0, .int .i64 1]) w) ∧
 (a3 ≠ 0 →
 ∀ (c0 : World), Ext no w c0 →
 ∃ (I0 : Nat → List Value → World → Prop) (c1 : Nat), I0 c1 [.slice none 0 0, .int .i64 0] c0 ∧ ∀ (bv : Nat) (aj : World) (a2 : Option Addr) (a5 : Nat) (a1 : Nat) (a0 : Int), I0 bv [.slice a2 a5 a1, .int .i64 a0] aj →
 (a0 < (cachetteref10_Parts.F (a4 : Int)) →
 (-9223372036854775808 : Int) ≤ ((48 : Int) * a0) ∧ ((48 : Int) * a0) < 9223372036854775808 ∧
 (-9223372036854775808 : Int) ≤ ((48 : Int) * a0) ∧ ((48 : Int) * a0) < 9223372036854775808 ∧
 (-9223372036854775808 : Int) ≤ (((48 : Int) * a0) + 48) ∧ (((48 : Int) * a0) + 48) < 9223372036854775808 ∧
 (0 : Int) ≤ ((if ((a4 : Int) : Int) < (((48 : Int) * a0) + 48) then (a4 : Int) else (((48 : Int) * a0) + 48)) : Int) ∧ ((if ((a4 : Int) : Int) < (((48 : Int) * a0) + 48) then (a4 : Int) else (((48 : Int) * a0) + 48)) : Int) ≤ (br : Int) ∧ (0 : Int) ≤ (((48 : Int) * a0) : Int) ∧ (((48 : Int) * a0) : Int) ≤ ((if ((a4 : Int) : Int) < (((48 : Int) * a0) + 48) then (a4 : Int) else (((48 : Int) * a0) + 48)) : Int) ∧ 
 ∀ (al : World) (bm : Nat), Ext no aj al → Blk al bm 5 [.int .u8 197] → aj.heap.size ≤ bm → bm < al.heap.size →
 Calls Try.prog 36 #[.int .u32 ap] al fun bp bo => ∃ (ad : Option Addr) (ae : Nat) (aa : Nat), bp = .returned (.slice ad ae aa) ∧
 ∃ (aq : Option Addr) (bb : Nat) (b9 : Nat) (ax : World), (Builtin.append_ #[23, 23] 23 #[.slice (some (blk bm)) 1 1, .slice ad ae aa]).run Try.prog bo = .ok (.slice aq bb b9) ax ∧
 Calls Try.prog 36 #[.int .u32 a3] ax fun bs bq => ∃ (a7 : Option Addr) (a6 : Nat) (a8 : Nat), bs = .returned (.slice a7 a6 a8) ∧
 ∃ (au : Option Addr) (b2 : Nat) (aw : Nat) (b5 : World), (Builtin.append_ #[23, 23] 23 #[.slice aq bb b9, .slice a7 a6 a8]).run Try.prog bq = .ok (.slice au b2 aw) b5 ∧
 Calls Try.prog 36 #[.int .u32 bu] b5 fun bn bt => ∃ (ab : Option Addr) (a9 : Nat) (ac : Nat), bn = .returned (.slice ab a9 ac) ∧
 ∃ (ar : Option Addr) (av : Nat) (bg : Nat) (ao : World), (Builtin.append_ #[23, 23] 23 #[.slice au b2 aw, .slice ab a9 ac]).run Try.prog bt = .ok (.slice ar av bg) ao ∧
 ∀ (ai : World) (bj : Nat), Ext no ao ai → Blk ai bj 5 [.int .u8 (IntKind.u8.wrap a0), .int .u8 (IntKind.u8.wrap (cachetteref10_Parts.F (a4 : Int))), .int .u8 (IntKind.u8.wrap (((Int.toNat (if ((a4 : Int) : Int) < (((48 : Int) * a0) + 48) then (a4 : Int) else (((48 : Int) * a0) + 48))) - (Int.toNat ((48 : Int) * a0)) : Nat) : Int))] → ao.heap.size ≤ bj → bj < ai.heap.size →
 ∃ (b3 : Option Addr) (b8 : Nat) (ba : Nat) (b7 : World), (Builtin.append_ #[23, 23] 23 #[.slice ar av bg, .slice (some (blk bj)) 3 3]).run Try.prog ai = .ok (.slice b3 b8 ba) b7 ∧
 ∃ (bf : Option Addr) (bi : Nat) (bd : Nat) (bc : World), (Builtin.append_ #[23, 23] 23 #[.slice b3 b8 ba, .slice (cutA c2 br (Int.toNat ((48 : Int) * a0)) 1) ((Int.toNat (if ((a4 : Int) : Int) < (((48 : Int) * a0) + 48) then (a4 : Int) else (((48 : Int) * a0) + 48))) - (Int.toNat ((48 : Int) * a0))) (br - (Int.toNat ((48 : Int) * a0)))]).run Try.prog b7 = .ok (.slice bf bi bd) bc ∧
 ∃ (I2 : Nat → List Value → World → Prop) (c3 : Nat), I2 c3 [.slice bf bi bd] bc ∧ ∀ (bx : Nat) (ag : World) (am : Option Addr) (af : Nat) (an : Nat), I2 bx [.slice am af an] ag →
 ((af : Int) < 64 →
 ∀ (ak : World) (bl : Nat), Ext no ag ak → Blk ak bl 5 [.int .u8 0] → ag.heap.size ≤ bl → bl < ak.heap.size →
 ∃ (b6 : Option Addr) (b4 : Nat) (ay : Nat) (b1 : World), (Builtin.append_ #[23, 23] 23 #[.slice am af an, .slice (some (blk bl)) 1 1]).run Try.prog ak = .ok (.slice b6 b4 ay) b1 ∧
 ∃ bw, bw < bx ∧ I2 bw [.slice b6 b4 ay] b1) ∧
 ((64 : Int) ≤ (af : Int) →
 ∀ (ah : World) (bk : Nat), Ext no ag ah → Blk ah bk 23 [.slice am af an] → ag.heap.size ≤ bk → bk < ah.heap.size →
 ∃ (b0 : Option Addr) (be : Nat) (az : Nat) (bh : World), (Builtin.append_ #[25, 25] 25 #[.slice a2 a5 a1, .slice (some (blk bk)) 1 1]).run Try.prog ah = .ok (.slice b0 be az) bh ∧
 (-9223372036854775808 : Int) ≤ (a0 + 1) ∧ (a0 + 1) < 9223372036854775808 ∧
 ∃ bz, bz < bv ∧ I0 bz [.slice b0 be az, .int .i64 (a0 + 1)] bh)) ∧
 ((cachetteref10_Parts.F (a4 : Int)) ≤ a0 →
 R (.tuple #[.slice a2 a5 a1, .int .i64 0]) aj))))

theorem cachetteref10_Frame.up (aj : Int) (a1 : Int) (ai : Int) (br : Option Addr) (ak : Nat) (bs : Nat) {R : Value → World → Prop} {w : World} (h : cachetteref10_Frame.N aj a1 ai br ak bs R w) : cachetteref10_Frame.M aj a1 ai br ak bs R w := by
  unfold cachetteref10_Frame.M
  unfold cachetteref10_Frame.N at h
  refine bif_of (fun c5 => ?_) (fun c5 => ?_)
  · have h := h.1 (of_decide_eq_true c5)
    exact h
  · have h := h.2 (Int.not_lt.1 (of_decide_eq_false c5))
    refine bif_of (fun c6 => ?_) (fun c6 => ?_)
    · have h := h.1 (beq_t c6)
      exact h
    · have h := h.2 (beq_f c6)
      refine bif_of (fun c7 => ?_) (fun c7 => ?_)
      · have h := h.1 (beq_t c7)
        exact h
      · have h := h.2 (beq_f c7)
        refine (cachetteref10_Parts.pure (ak : Int)).mono fun ee ww8 ⟨he, hxx⟩ => ⟨(cachetteref10_Parts.F (ak : Int)), he, ?_⟩
        have c1 := (Ext.refl no w).trans hxx
        have h := h ww8 c1
        obtain ⟨I0, ca, h0, h⟩ := h
        refine ⟨I0, ca, h0, fun cc a3 af ae ag c2 hI => ?_⟩
        have h := h cc a3 af ae ag c2 hI
        refine bif_of (fun bd => ?_) (fun bd => ?_)
        · have h := h.1 (of_decide_eq_true bd)
          obtain ⟨ah, ad, h⟩ := h
          try rw [w64 ah ad]
          obtain ⟨ah, ad, h⟩ := h
          try rw [w64 ah ad]
          obtain ⟨ah, ad, h⟩ := h
          try rw [w64 ah ad]
          obtain ⟨bv, bx, c0, bw, h⟩ := h
          refine ⟨bv, bx, c0, bw, ?_⟩
          refine thenW_in fun bq au => ?_
          have h := h bq a3.heap.size ((Ext.refl no a3).x_alloc au) (Blk.of_new au) ((Ext.refl no a3)).size (size_lt_alloc au)
          refine h.mono fun c4 bz h => ?_
          obtain ⟨a8, ac, aa, he, h⟩ := h
          refine ⟨a8, ac, aa, he, ?_⟩
          obtain ⟨b7, bp, bb, ay, hr, h⟩ := h
          refine ⟨b7, bp, bb, ay, hr, ?_⟩
          refine h.mono fun bt cb h => ?_
          obtain ⟨a4, a7, a9, he, h⟩ := h
          refine ⟨a4, a7, a9, he, ?_⟩
          obtain ⟨aw, ao, bk, b3, hr, h⟩ := h
          refine ⟨aw, ao, bk, b3, hr, ?_⟩
          refine h.mono fun c9 cd h => ?_
          obtain ⟨a5, a2, a6, he, h⟩ := h
          refine ⟨a5, a2, a6, he, ?_⟩
          obtain ⟨av, ax, bg, ab, hr, h⟩ := h
          refine ⟨av, ax, bg, ab, hr, ?_⟩
          refine thenW_in fun b0 al => ?_
          have h := h b0 ab.heap.size ((Ext.refl no ab).x_alloc al) (Blk.of_new al) ((Ext.refl no ab)).size (size_lt_alloc al)
          obtain ⟨b1, b4, b5, aq, hr, h⟩ := h
          refine ⟨b1, b4, b5, aq, hr, ?_⟩
          obtain ⟨ar, bi, be, bc, hr, h⟩ := h
          refine ⟨ar, bi, be, bc, hr, ?_⟩
          obtain ⟨I2, bu, h0, h⟩ := h
          refine ⟨I2, bu, h0, fun ce a0 b8 bf an hI => ?_⟩
          have h := h ce a0 b8 bf an hI
          refine bif_of (fun ba => ?_) (fun ba => ?_)
          · have h := h.1 (of_decide_eq_true ba)
            refine thenW_in fun ap b6 => ?_
            have h := h ap a0.heap.size ((Ext.refl no a0).x_alloc b6) (Blk.of_new b6) ((Ext.refl no a0)).size (size_lt_alloc b6)
            obtain ⟨bn, b2, bl, bm, hr, h⟩ := h
            refine ⟨bn, b2, bl, bm, hr, ?_⟩
            obtain ⟨c8, hk, h⟩ := h
            exact ⟨c8, hk, h⟩
          · have h := h.2 (Int.not_lt.1 (of_decide_eq_false ba))
            refine thenW_in fun bj am => ?_
            have h := h bj a0.heap.size ((Ext.refl no a0).x_alloc am) (Blk.of_new am) ((Ext.refl no a0)).size (size_lt_alloc am)
            obtain ⟨az, bo, b9, bh, hr, h⟩ := h
            refine ⟨az, bo, b9, bh, hr, ?_⟩
            obtain ⟨ah, ad, h⟩ := h
            try rw [w64 ah ad]
            obtain ⟨c3, hk, h⟩ := h
            exact ⟨c3, hk, h⟩
        · have h := h.2 (Int.not_lt.1 (of_decide_eq_false bd))
          exact h

theorem cachetteref10_Frame.go (a1 : Int) (a0 : Int) (a2 : Int) (a5 : Option Addr) (a4 : Nat) (a3 : Nat) {R : Value → World → Prop} {w : World} (h : cachetteref10_Frame.N a1 a0 a2 a5 a4 a3 R w) : Calls Try.prog 10 #[.int .u32 a1, .int .u32 a0, .int .u32 a2, .slice a5 a4 a3] w fun e w' => ∃ v, e = .returned v ∧ R v w' := cachetteref10_Frame.ok a1 a0 a2 a5 a4 a3 (cachetteref10_Frame.up a1 a0 a2 a5 a4 a3 h)
/-- cachetteref10.Lists -/
def cachetteref10_Lists.M (ag : Option Addr) (a6 : Nat) (ai : Nat) (ah : Option Addr) (ac : Nat) (aj : Nat) (R : Value → World → Prop) (w : World) : Prop :=
 bif (a6 : Int) != (ac : Int) then (
 R (.bool false) w) else (
 ∃ (I0 : Nat → List Value → World → Prop) (m4 : Nat), I0 m4 [.int .i64 0] w ∧ ∀ (m5 : Nat) (a7 : World) (i3 : Int), I0 m5 [.int .i64 i3] a7 →
 bif decide (i3 < (a6 : Int)) then (
 thenW (a7.drew) fun a5 =>
 ag.elim False fun a8 =>
 0 ≤ (i3 : Int) ∧ (i3 : Int) < (a6 : Int) ∧
 ∃ (ab : Option Addr) (ae : Nat) (ad : Nat), a5.cell? (a8.add (Int.toNat i3 * 1)) = some (.slice ab ae ad) ∧
 ah.elim False fun af =>
 0 ≤ (i3 : Int) ∧ (i3 : Int) < (ac : Int) ∧
 ∃ (a1 : Option Addr) (a2 : Nat) (a3 : Nat), a5.cell? (af.add (Int.toNat i3 * 1)) = some (.slice a1 a2 a3) ∧
 Calls Try.prog 27 #[.slice ab ae ad, .slice a1 a2 a3] a5 fun a9 a4 => ∃ (a0 : Bool), a9 = .returned (.bool a0) ∧
 bif !a0 then (
 R (.bool false) a4) else (
 ∃ aa, aa < m5 ∧ I0 aa [.int .i64 (IntKind.i64.wrap (i3 + 1))] a4)) else (
 R (.bool true) a7))

theorem cachetteref10_Lists.eq (a1a : Option Addr) (a1n : Nat) (a1c : Nat) (b2a : Option Addr) (b2n : Nat) (b2c : Nat) (R : Value → World → Prop) (w : World) : mfunc Try.prog [(0, [0, 1], [(5, (.one (.int .i64)))])] 11 [.slice a1a a1n a1c, .slice b2a b2n b2c] R w = cachetteref10_Lists.M a1a a1n a1c b2a b2n b2c R w := by kernel_rfl
theorem cachetteref10_Lists.ok (a5 : Option Addr) (a4 : Nat) (a0 : Nat) (a3 : Option Addr) (a2 : Nat) (a1 : Nat) {R : Value → World → Prop} {w : World} (h : cachetteref10_Lists.M a5 a4 a0 a3 a2 a1 R w) : Calls Try.prog 11 #[.slice a5 a4 a0, .slice a3 a2 a1] w fun e w' => ∃ v, e = .returned v ∧ R v w' :=
  mfunc_ok follows (H := [(0, [0, 1], [(5, (.one (.int .i64)))])]) (args := [.slice a5 a4 a0, .slice a3 a2 a1]) (by rw [cachetteref10_Lists.eq]; exact h)

def cachetteref10_Lists.N (ag : Option Addr) (a3 : Nat) (ai : Nat) (ah : Option Addr) (ab : Nat) (aj : Nat) (R : Value → World → Prop) (w : World) : Prop :=
 ((a3 : Int) ≠ (ab : Int) →
 R (.bool false) w) ∧
 ((a3 : Int) = (ab : Int) →
 ∃ (I0 : Nat → List Value → World → Prop) (m5 : Nat), I0 m5 [.int .i64 0] w ∧ ∀ (m6 : Nat) (a1 : World) (i4 : Int), I0 m6 [.int .i64 i4] a1 →
 (i4 < (a3 : Int) →
 ∃ ae : Addr, ag = some ae ∧
 0 ≤ (i4 : Int) ∧ (i4 : Int) < (a3 : Int) ∧
 ∃ (a7 : Option Addr) (a2 : Nat) (a4 : Nat), a1.cell? (ae.add (Int.toNat i4 * 1)) = some (.slice a7 a2 a4) ∧
 ∃ ac : Addr, ah = some ac ∧
 0 ≤ (i4 : Int) ∧ (i4 : Int) < (ab : Int) ∧
 ∃ (a5 : Option Addr) (a8 : Nat) (a9 : Nat), a1.cell? (ac.add (Int.toNat i4 * 1)) = some (.slice a5 a8 a9) ∧
 ∀ (af : World), Ext no a1 af →
 Calls Try.prog 27 #[.slice a7 a2 a4, .slice a5 a8 a9] af fun aa a6 => ∃ (a0 : Bool), aa = .returned (.bool a0) ∧
 (a0 = false →
 R (.bool false) a6) ∧
 (a0 = true →
 (-9223372036854775808 : Int) ≤ (i4 + 1) ∧ (i4 + 1) < 9223372036854775808 ∧
 ∃ ad, ad < m6 ∧ I0 ad [.int .i64 (i4 + 1)] a6)) ∧
 ((a3 : Int) ≤ i4 →
 R (.bool true) a1))

theorem cachetteref10_Lists.up (ai : Option Addr) (ah : Nat) (aj : Nat) (ak : Option Addr) (ag : Nat) (al : Nat) {R : Value → World → Prop} {w : World} (h : cachetteref10_Lists.N ai ah aj ak ag al R w) : cachetteref10_Lists.M ai ah aj ak ag al R w := by
  unfold cachetteref10_Lists.M
  unfold cachetteref10_Lists.N at h
  refine bif_of (fun c3 => ?_) (fun c3 => ?_)
  · have h := h.1 (bne_t c3)
    exact h
  · have h := h.2 (bne_f c3)
    obtain ⟨I0, m5, h0, h⟩ := h
    refine ⟨I0, m5, h0, fun m6 af i4 hI => ?_⟩
    have h := h m6 af i4 hI
    refine bif_of (fun c8 => ?_) (fun c8 => ?_)
    · have h := h.1 (of_decide_eq_true c8)
      refine thenW_in fun ap e9 => ?_
      have a1 := (Ext.refl no af).x_drew e9
      obtain ⟨av, a5, h⟩ := h
      refine elim_some a5 ?_
      obtain ⟨a2, a6, h⟩ := h
      refine ⟨a2, a6, ?_⟩
      obtain ⟨aa, a4, a7, a3, h⟩ := h
      refine ⟨aa, a4, a7, (a1).cell a3 id, ?_⟩
      obtain ⟨au, a8, h⟩ := h
      refine elim_some a8 ?_
      obtain ⟨a2, a6, h⟩ := h
      refine ⟨a2, a6, ?_⟩
      obtain ⟨a9, ab, ad, ac, h⟩ := h
      refine ⟨a9, ab, ad, (a1).cell ac id, ?_⟩
      have h := h ap a1
      refine h.mono fun am aq h => ?_
      obtain ⟨a0, he, h⟩ := h
      refine ⟨a0, he, ?_⟩
      refine bif_of (fun ae => ?_) (fun ae => ?_)
      · have h := h.1 (not_t ae)
        exact h
      · have h := h.2 (not_f ae)
        obtain ⟨ar, ao, h⟩ := h
        try rw [w64 ar ao]
        obtain ⟨an, hk, h⟩ := h
        exact ⟨an, hk, h⟩
    · have h := h.2 (Int.not_lt.1 (of_decide_eq_false c8))
      exact h

theorem cachetteref10_Lists.go (a5 : Option Addr) (a4 : Nat) (a0 : Nat) (a3 : Option Addr) (a2 : Nat) (a1 : Nat) {R : Value → World → Prop} {w : World} (h : cachetteref10_Lists.N a5 a4 a0 a3 a2 a1 R w) : Calls Try.prog 11 #[.slice a5 a4 a0, .slice a3 a2 a1] w fun e w' => ∃ v, e = .returned v ∧ R v w' := cachetteref10_Lists.ok a5 a4 a0 a3 a2 a1 (cachetteref10_Lists.up a5 a4 a0 a3 a2 a1 h)
theorem cachetteref10_Lists.run (a5 : Option Addr) (a4 : Nat) (a0 : Nat) (a3 : Option Addr) (a2 : Nat) (a1 : Nat) {V : Value} {Q : World → Prop} {w : World} (h : cachetteref10_Lists.N a5 a4 a0 a3 a2 a1 (fun v w' => v = V ∧ Q w') w) : Calls Try.prog 11 #[.slice a5 a4 a0, .slice a3 a2 a1] w (Ret V Q) := (cachetteref10_Lists.go a5 a4 a0 a3 a2 a1 h).mono fun e w' ⟨v, he, hv, hq⟩ => ⟨by rw [he, hv], hq⟩

/-- cachettelaw10.JournalFrames -/
def cachettelaw10_JournalFrames.M (aj : Int) (af : Int) (al : Int) (b2 : Option Addr) (ah : Nat) (b1 : Nat) (n5 : Int) (R : Value → World → Prop) (w : World) : Prop :=
 bif decide ((ah : Int) > 4100) then (
 Calls Try.prog 8 #[] w fun b3 b4 => ∃ (ae : Bool), b3 = .returned (.bool ae) ∧
 R (.bool ae) b4) else (
 Calls Try.prog 9 #[.int .u32 aj, .int .u32 af, .int .u32 al, .slice b2 ah b1] w fun ap ao => ∃ (a3 : Option Addr) (a9 : Nat) (aa : Nat) (ac : Int), ap = .returned (.tuple #[.slice a3 a9 aa, .int .i64 ac]) ∧
 Calls Try.prog 10 #[.int .u32 aj, .int .u32 af, .int .u32 al, .slice b2 ah b1] ao fun b0 ay => ∃ (a0 : Option Addr) (a1 : Nat) (a2 : Nat) (ad : Int), b0 = .returned (.tuple #[.slice a0 a1 a2, .int .i64 ad]) ∧
 Calls Try.prog 11 #[.slice a3 a9 aa, .slice a0 a1 a2] ay fun aq ag => ∃ (a5 : Bool), aq = .returned (.bool a5) ∧
 bif a5 then (
 bif ac == ad then (
 Calls Try.prog 12 #[.int .i64 n5] ag fun aw au => ∃ (ab : Int), aw = .returned (.int .i64 ab) ∧
 Calls Try.prog 13 #[.int .i64 n5] au fun av ak => ∃ (a6 : Int), av = .returned (.int .i64 a6) ∧
 bif ab == a6 then (
 Calls Try.prog 12 #[.int .i64 (ah : Int)] ak fun an am => ∃ (a4 : Int), an = .returned (.int .i64 a4) ∧
 Calls Try.prog 13 #[.int .i64 (ah : Int)] am fun az ai => ∃ (a8 : Int), az = .returned (.int .i64 a8) ∧
 bif a4 == a8 then (
 Calls Try.prog 8 #[] ai fun ar ax => ∃ (a7 : Bool), ar = .returned (.bool a7) ∧
 R (.bool a7) ax) else (
 R (.bool false) ai)) else (
 R (.bool false) ak)) else (
 R (.bool false) ag)) else (
 R (.bool false) ag))

theorem cachettelaw10_JournalFrames.eq (gen1 : Int) (round2 : Int) (seq3 : Int) (b4a : Option Addr) (b4n : Nat) (b4c : Nat) (n5 : Int) (R : Value → World → Prop) (w : World) : mfunc Try.prog [] 3 [.int .u32 gen1, .int .u32 round2, .int .u32 seq3, .slice b4a b4n b4c, .int .i64 n5] R w = cachettelaw10_JournalFrames.M gen1 round2 seq3 b4a b4n b4c n5 R w := by kernel_rfl
theorem cachettelaw10_JournalFrames.ok (a1 : Int) (a0 : Int) (a2 : Int) (a5 : Option Addr) (a4 : Nat) (a3 : Nat) (n5 : Int) {R : Value → World → Prop} {w : World} (h : cachettelaw10_JournalFrames.M a1 a0 a2 a5 a4 a3 n5 R w) : Calls Try.prog 3 #[.int .u32 a1, .int .u32 a0, .int .u32 a2, .slice a5 a4 a3, .int .i64 n5] w fun e w' => ∃ v, e = .returned v ∧ R v w' :=
  mfunc_ok follows (H := []) (args := [.int .u32 a1, .int .u32 a0, .int .u32 a2, .slice a5 a4 a3, .int .i64 n5]) (by rw [cachettelaw10_JournalFrames.eq]; exact h)

def cachettelaw10_JournalFrames.N (ag : Int) (ab : Int) (ah : Int) (aq : Option Addr) (ae : Nat) (ap : Nat) (n5 : Int) (R : Value → World → Prop) (w : World) : Prop :=
 ((ae : Int) > 4100 →
 Calls Try.prog 8 #[] w fun au ar => ∃ (aa : Bool), au = .returned (.bool aa) ∧
 R (.bool aa) ar) ∧
 ((ae : Int) ≤ 4100 →
 Calls Try.prog 9 #[.int .u32 ag, .int .u32 ab, .int .u32 ah, .slice aq ae ap] w fun al aj => ∃ (a7 : Option Addr) (a3 : Nat) (a8 : Nat) (a0 : Int), al = .returned (.tuple #[.slice a7 a3 a8, .int .i64 a0]) ∧
 Calls Try.prog 10 #[.int .u32 ag, .int .u32 ab, .int .u32 ah, .slice aq ae ap] aj fun ai am => ∃ (a4 : Option Addr) (a5 : Nat) (a6 : Nat) (a1 : Int), ai = .returned (.tuple #[.slice a4 a5 a6, .int .i64 a1]) ∧
 Calls Try.prog 11 #[.slice a7 a3 a8, .slice a4 a5 a6] am fun ao ad => ∃ (a2 : Bool), ao = .returned (.bool a2) ∧
 (a2 = true →
 (a0 = a1 →
 ((journal_Parts.F n5) = (cachetteref10_Parts.F n5) →
 ((journal_Parts.F (ae : Int)) = (cachetteref10_Parts.F (ae : Int)) →
 ∀ (ac : World), Ext no ad ac →
 Calls Try.prog 8 #[] ac fun an ak => ∃ (a9 : Bool), an = .returned (.bool a9) ∧
 R (.bool a9) ak) ∧
 ((journal_Parts.F (ae : Int)) ≠ (cachetteref10_Parts.F (ae : Int)) →
 ∀ (ac : World), Ext no ad ac →
 R (.bool false) ac)) ∧
 ((journal_Parts.F n5) ≠ (cachetteref10_Parts.F n5) →
 ∀ (af : World), Ext no ad af →
 R (.bool false) af)) ∧
 (a0 ≠ a1 →
 R (.bool false) ad)) ∧
 (a2 = false →
 R (.bool false) ad))

theorem cachettelaw10_JournalFrames.up (af : Int) (a3 : Int) (ag : Int) (ap : Option Addr) (ac : Nat) (ao : Nat) (n5 : Int) {R : Value → World → Prop} {w : World} (h : cachettelaw10_JournalFrames.N af a3 ag ap ac ao n5 R w) : cachettelaw10_JournalFrames.M af a3 ag ap ac ao n5 R w := by
  unfold cachettelaw10_JournalFrames.M
  unfold cachettelaw10_JournalFrames.N at h
  refine bif_of (fun c6 => ?_) (fun c6 => ?_)
  · have h := h.1 (of_decide_eq_true c6)
    refine h.mono fun b0 az h => ?_
    obtain ⟨ab, he, h⟩ := h
    refine ⟨ab, he, ?_⟩
    exact h
  · have h := h.2 (Int.not_lt.1 (of_decide_eq_false c6))
    refine h.mono fun av ar h => ?_
    obtain ⟨a5, a0, a6, a8, he, h⟩ := h
    refine ⟨a5, a0, a6, a8, he, ?_⟩
    refine h.mono fun aq aw h => ?_
    obtain ⟨a1, a2, a4, a9, he, h⟩ := h
    refine ⟨a1, a2, a4, a9, he, ?_⟩
    refine h.mono fun ay am h => ?_
    obtain ⟨aa, he, h⟩ := h
    refine ⟨aa, he, ?_⟩
    refine bif_of (fun aj => ?_) (fun aj => ?_)
    · have h := h.1 aj
      refine bif_of (fun al => ?_) (fun al => ?_)
      · have h := h.1 (beq_t al)
        refine (journal_Parts.pure n5).mono fun ee ww23 ⟨he, hxx⟩ => ⟨(journal_Parts.F n5), he, ?_⟩
        have ak := (Ext.refl no am).trans hxx
        refine (cachetteref10_Parts.pure n5).mono fun ee ww24 ⟨he, hxx⟩ => ⟨(cachetteref10_Parts.F n5), he, ?_⟩
        have ad := ak.trans hxx
        refine bif_of (fun ah => ?_) (fun ah => ?_)
        · have h := h.1 (beq_t ah)
          refine (journal_Parts.pure (ac : Int)).mono fun ee ww26 ⟨he, hxx⟩ => ⟨(journal_Parts.F (ac : Int)), he, ?_⟩
          have ai := ad.trans hxx
          refine (cachetteref10_Parts.pure (ac : Int)).mono fun ee ww27 ⟨he, hxx⟩ => ⟨(cachetteref10_Parts.F (ac : Int)), he, ?_⟩
          have ae := ai.trans hxx
          refine bif_of (fun an => ?_) (fun an => ?_)
          · have h := h.1 (beq_t an)
            have h := h ww27 ae
            refine h.mono fun ax au h => ?_
            obtain ⟨a7, he, h⟩ := h
            refine ⟨a7, he, ?_⟩
            exact h
          · have h := h.2 (beq_f an)
            have h := h ww27 ae
            exact h
        · have h := h.2 (beq_f ah)
          have h := h ww24 ad
          exact h
      · have h := h.2 (beq_f al)
        exact h
    · have h := h.2 aj
      exact h

theorem cachettelaw10_JournalFrames.go (a1 : Int) (a0 : Int) (a2 : Int) (a5 : Option Addr) (a4 : Nat) (a3 : Nat) (n5 : Int) {R : Value → World → Prop} {w : World} (h : cachettelaw10_JournalFrames.N a1 a0 a2 a5 a4 a3 n5 R w) : Calls Try.prog 3 #[.int .u32 a1, .int .u32 a0, .int .u32 a2, .slice a5 a4 a3, .int .i64 n5] w fun e w' => ∃ v, e = .returned v ∧ R v w' := cachettelaw10_JournalFrames.ok a1 a0 a2 a5 a4 a3 n5 (cachettelaw10_JournalFrames.up a1 a0 a2 a5 a4 a3 n5 h)
theorem cachettelaw10_JournalFrames.run (a1 : Int) (a0 : Int) (a2 : Int) (a5 : Option Addr) (a4 : Nat) (a3 : Nat) (n5 : Int) {V : Value} {Q : World → Prop} {w : World} (h : cachettelaw10_JournalFrames.N a1 a0 a2 a5 a4 a3 n5 (fun v w' => v = V ∧ Q w') w) : Calls Try.prog 3 #[.int .u32 a1, .int .u32 a0, .int .u32 a2, .slice a5 a4 a3, .int .i64 n5] w (Ret V Q) := (cachettelaw10_JournalFrames.go a1 a0 a2 a5 a4 a3 n5 h).mono fun e w' ⟨v, he, hv, hq⟩ => ⟨by rw [he, hv], hq⟩

end Go.Proofs.Ytgcjipbahfpopaa

/- Journal: a record's sectors; the program's Frame. -/
set_option linter.unusedVariables false
set_option linter.unusedSimpArgs false
set_option maxRecDepth 20000
set_option maxHeartbeats 2000000
namespace Go.Proofs.Ytgcjipbahfpopaa
open Go Go.Mx Go.Proofs
open W (OwnB GivesW)
theorem inf23 : (Try.prog.info? 23).map (fun i => (i.zero, i.size, i.bytes)) = some (some (.slice none 0 0), 1, 24) := by kernel_rfl
theorem wrapU8 (k : Nat) : IntKind.u8.wrap (k : Int) = ((UInt8.ofNat k).toNat : Int) := by
  rw [IntKind.wrap_u8]
  simp
theorem wrapU8i {z : Int} (h : 0 ≤ z) : Value.int .u8 (IntKind.u8.wrap z) = u8V (UInt8.ofNat z.toNat) := by
  obtain ⟨k, rfl⟩ := Int.eq_ofNat_of_zero_le h
  unfold u8V
  rw [wrapU8]; rfl
def be4 (n : Nat) : List UInt8 := [UInt8.ofNat (n / 16777216), UInt8.ofNat (n / 65536), UInt8.ofNat (n / 256), UInt8.ofNat n]
/-- how many parts. -/
def partsN (n : Nat) : Nat := if n > 4000 then 0 else if n = 0 then 1 else (n + 47) / 48
def partsI (n : Int) : Int := if n < 0 then 0 else (partsN n.toNat : Int)
theorem parts_eq {n : Int} (h0 : 0 ≤ n) (h1 : n ≤ 4000) : partsI n = if n = 0 then 1 else (n + 47) / 48 := by
  unfold partsI partsN
  rw [if_neg (by omega), if_neg (by omega)]
  by_cases hz : n = 0
  · subst hz; rfl
  · rw [if_neg (by omega), if_neg hz]
    omega
theorem parts_out {n : Int} (h : n < 0 ∨ n > 4000) : partsI n = 0 := by
  unfold partsI partsN
  by_cases h0 : n < 0
  · rw [if_pos h0]
  · rw [if_neg h0, if_pos (by omega)]; rfl
theorem parts_F (n : Int) : journal_Parts.F n = partsI n := by
  unfold journal_Parts.F
  by_cases h0 : n < 0
  · rw [if_pos h0, parts_out (.inl h0)]
  rw [if_neg h0]
  by_cases h1 : n > 4000
  · rw [if_pos h1, parts_out (.inr h1)]
  rw [if_neg h1, parts_eq (by omega) (by omega), w64 (n := n + 48) (by omega) (by omega), w64 (n := n + 48 - 1) (by omega) (by omega), Int.tdiv_eq_ediv_of_nonneg (by omega), w64 (n := (n + 48 - 1) / 48) (by omega) (by omega)]
  by_cases hz : n = 0
  · subst hz; rfl
  · rw [if_neg hz, if_neg (by omega)]
    omega
theorem refParts_F (n : Int) : cachetteref10_Parts.F n = partsI n := by
  unfold cachetteref10_Parts.F
  by_cases h0 : n < 0
  · rw [if_pos h0, parts_out (.inl h0)]
  rw [if_neg h0]
  by_cases h1 : n > 4000
  · rw [if_pos h1, parts_out (.inr h1)]
  rw [if_neg h1, parts_eq (by omega) (by omega)]
  by_cases hz : n = 0
  · subst hz; rfl
  · rw [if_neg hz, if_neg hz, w64 (n := n + 47) (by omega) (by omega), Int.tdiv_eq_ediv_of_nonneg (by omega), w64 (n := (n + 47) / 48) (by omega) (by omega)]
theorem partsI_nat (n : Nat) : partsI (n : Int) = (partsN n : Int) := by
  unfold partsI
  rw [if_neg (by omega), Int.toNat_natCast]
theorem partsN_le (n : Nat) : partsN n ≤ 84 := by
  unfold partsN
  split
  · omega
  · split
    · omega
    · omega
/-- what a sector begins with. -/
def headL (gen round seq i n k : Nat) : List UInt8 := 197 :: (be4 gen ++ be4 round ++ be4 seq ++ [UInt8.ofNat i, UInt8.ofNat n, UInt8.ofNat k])
theorem headL_len (gen round seq i n k : Nat) : (headL gen round seq i n k).length = 16 := rfl
def secL (gen round seq i n : Nat) (x : List UInt8) : List UInt8 := headL gen round seq i n x.length ++ x ++ List.replicate (48 - x.length) 0
def partL (b : List UInt8) (i : Nat) : List UInt8 := (b.drop (48 * i)).take 48
theorem partL_le (b : List UInt8) (i : Nat) : (partL b i).length ≤ 48 := by unfold partL; rw [List.length_take]; omega
theorem secL_len (gen round seq i n : Nat) {x : List UInt8} (h : x.length ≤ 48) : (secL gen round seq i n x).length = 64 := by
  unfold secL
  rw [List.length_append, List.length_append, headL_len, List.length_replicate]; omega
def frameL (gen round seq : Nat) (b : List UInt8) : List (List UInt8) := (List.range (partsN b.length)).map fun i => secL gen round seq i (partsN b.length) (partL b i)
def frameK (gen round seq : Nat) (b : List UInt8) : List (List UInt8) × Int :=
  if b.length > 4000 then ([], 3) else if gen = 0 ∨ round = 0 then ([], 1) else (frameL gen round seq b, 0)
/-- a list of bytes' rows. -/
def BSok (w : World) (o : Own) (x : BS) : Prop := Row w o x.a (bytesV x.bs) ∧ x.bs.length ≤ x.c
/-- a sector on its way. -/
structure SB (w : World) (q g : Nat) (l : List UInt8) : Prop where
  p : Blk w q 67 [.slice (some (blk g)) l.length 64]
  b : Blk w g 5 (bytesV (l ++ List.replicate (64 - l.length) 0))
  ne : q ≠ g
  le : l.length ≤ 64
section
variable {w w' w1 : World} {o o' : Own} {q g n N : Nat} {K : Nat → Prop} {l x : List UInt8} {xa : Option Addr} {xc : Nat}
theorem BSok.step {x : BS} (h : BSok w o x) (s : Step K w o w' o') : BSok w' o' x := ⟨h.1.step s, h.2⟩
theorem SB.no (h : SB w q g l) (X : Ext no w w') : SB w' q g l := ⟨h.p.ext X id, h.b.ext X id, h.ne, h.le⟩
theorem sec_types (v : Value) : (Builtin.append_ #[67, 23] 67 #[.slice (some (blk g)) n 64, v]).run Try.prog w = (Builtin.append_ #[67, 67] 67 #[.slice (some (blk g)) n 64, v]).run Try.prog w := by
  obtain ⟨i, hi, hz, hs, hb⟩ := info_of W.infU8
  unfold Builtin.append_
  simp [run_underlying Try.underlying67, run_underlying Try.underlying23, sizeOf, typeInfo, hi]
theorem blk_row_set {cur : List Value} {t : TypeId} (h : Blk w g t cur) (new : List Value) : Blk (w.setRow g new.toArray) g t new ∧ Ext (fun b => b = g) w (w.setRow g new.toArray) := by
  refine ⟨?_, rfl, rfl, rfl, by simp, fun k _ hk => setRow_other w g k _ hk⟩
  have := setRow_heap w g _ new.toArray t _ h
  unfold Blk
  exact this
theorem run_put (hS : SB w q g l) (hx : RowAt w xa (bytesV x)) (hl : l.length + x.length ≤ 64) :
    ∃ w', (Builtin.append_ #[67, 23] 67 #[.slice (some (blk g)) l.length 64, .slice xa x.length xc]).run Try.prog w = .ok (.slice (some (blk g)) (l ++ x).length 64) w' ∧
      Blk w' g 5 (bytesV (l ++ x ++ List.replicate (64 - (l ++ x).length) 0)) ∧ Ext (fun b => b = g) w w' := by
  obtain ⟨i, hi, hz, hs, hb⟩ := info_of W.infU8
  have e1 : (l ++ x).length = l.length + x.length := List.length_append
  have hle := hS.le
  rw [sec_types]
  cases xa with
  | none =>
    have : x = [] := by simpa [bytesV] using hx.none_nil
    subst this
    refine ⟨w, ?_, by rw [List.append_nil]; exact hS.b, Ext.refl _ _⟩
    rw [e1]
    simp [Builtin.append_, run_underlying Try.underlying67, sizeOf, typeInfo, hi, Builtin.lenOf, Builtin.firstCells, hle, storeCells]
  | some ad =>
    have hlen : (bytesV (l ++ List.replicate (64 - l.length) 0)).length = 64 := by rw [bytesV_length, List.length_append, List.length_replicate]; omega
    have hr := run_append_room (P := Try.prog) (w := w) 67 67 5 i Try.underlying67 hi g l.length 64 _ hS.b ad x.length xc (bytesV x) (by rw [bytesV_length, hs]; omega) (fun j u hu => hx.at_ hu) (bytesV_one x) hl (by
      rw [hs, bytesV_length, List.size_toArray, hlen]; omega)
    rw [hs, Nat.mul_one, bytesV_length] at hr
    have hnew : (bytesV (l ++ List.replicate (64 - l.length) 0)).toArray.toList.take l.length ++ bytesV x ++ (bytesV (l ++ List.replicate (64 - l.length) 0)).toArray.toList.drop (l.length + x.length) = bytesV (l ++ x ++ List.replicate (64 - (l ++ x).length) 0) := by
      have hb : ∀ n, bytesV (l ++ List.replicate n 0) = bytesV l ++ List.replicate n (u8V 0) := fun n => by simp [bytesV]
      have hb2 : ∀ n, bytesV (l ++ x ++ List.replicate n 0) = bytesV l ++ bytesV x ++ List.replicate n (u8V 0) := fun n => by simp [bytesV]
      rw [hb, hb2]
      have h1 : (bytesV l ++ List.replicate (64 - l.length) (u8V 0)).take l.length = bytesV l := by
        rw [List.take_append_of_le_length (by rw [bytesV_length]; omega), List.take_of_length_le (by rw [bytesV_length]; omega)]
      have h2 : (bytesV l ++ List.replicate (64 - l.length) (u8V 0)).drop (l.length + x.length) = List.replicate (64 - (l ++ x).length) (u8V 0) := by
        rw [← bytesV_length l, List.drop_length_add_append, List.drop_replicate]
        congr 1
        rw [e1, bytesV_length]; omega
      show (bytesV l ++ List.replicate (64 - l.length) (u8V 0)).take l.length ++ bytesV x ++ (bytesV l ++ List.replicate (64 - l.length) (u8V 0)).drop (l.length + x.length) = _
      rw [h1, h2]
    rw [hnew] at hr
    obtain ⟨h1, h2⟩ := blk_row_set hS.b (bytesV (l ++ x ++ List.replicate (64 - (l ++ x).length) 0))
    exact ⟨_, by rw [e1]; rw [e1] at hr; exact hr, h1, h2⟩
theorem put_spec (hS : SB w q g l) (hx : RowAt w xa (bytesV x)) (hl : l.length + x.length ≤ 64) :
    Calls Try.prog 34 #[.pointer (some (blk q)), .slice xa x.length xc] w (Ret (.tuple #[]) fun w' => SB w' q g (l ++ x) ∧ Ext (fun b => b = q ∨ b = g) w w') := by
  refine journal_sector_put.run _ _ _ _ ?_
  unfold journal_sector_put.N
  obtain ⟨w7, hr, hb7, X7⟩ := run_put (xc := xc) hS hx hl
  have hne := hS.ne
  have p7 := hS.p.ext X7 (fun e => hne e)
  refine ⟨_, rfl, _, _, _, hS.p.cella (i := 0) rfl, _, _, _, w7, hr, p7.cana (i := 0) rfl, thenW_in fun w8 e8 => ⟨rfl, ⟨p7.seti 0 rfl e8, hb7.oth rfl (fun e => hne e.symm) e8, hne, by rw [List.length_append]; exact hl⟩, ?_⟩⟩
  exact (X7.mono fun b h _ => .inr h).x_set (q := q) (i := 0) rfl (.inl (.inl rfl)) e8
theorem number_spec (hS : SB w q g l) {m : Nat} (hl : l.length + 4 ≤ 64) :
    Calls Try.prog 35 #[.pointer (some (blk q)), .int .u32 m] w (Ret (.tuple #[]) fun w' => SB w' q g (l ++ be4 m) ∧ Ext (fun b => b = q ∨ b = g) w w') := by
  refine journal_sector_number.run _ _ ?_
  unfold journal_sector_number.N
  intro w3 q4 X3 hb hq hq'
  have hrow : RowAt w3 (some (blk q4)) (bytesV (be4 m)) := by
    have := RowAt.of_blk hb
    have e : ∀ k : Nat, Value.int .u8 (IntKind.u8.wrap ((m : Int) / (k : Int))) = u8V (UInt8.ofNat (m / k)) := fun k => wrapU8i (z := ((m / k : Nat) : Int)) (Int.natCast_nonneg _)
    have e1 : Value.int .u8 (IntKind.u8.wrap ((m : Int) / 16777216)) = _ := e 16777216
    have e2 : Value.int .u8 (IntKind.u8.wrap ((m : Int) / 65536)) = _ := e 65536
    have e3 : Value.int .u8 (IntKind.u8.wrap ((m : Int) / 256)) = _ := e 256
    have e4 : Value.int .u8 (IntKind.u8.wrap (m : Int)) = u8V (UInt8.ofNat m) := wrapU8i (z := (m : Int)) (Int.natCast_nonneg _)
    rw [e1, e2, e3, e4] at this
    exact this
  exact (put_spec (xc := 4) (hS.no X3) hrow hl).mono fun v w6 ⟨he, hS6, X6⟩ => ⟨he, rfl, hS6, (X3.mono fun _ h _ => h.elim).then X6 fun b hb => .inl hb⟩
end
end Go.Proofs.Ytgcjipbahfpopaa

/- Journal: the program's Frame, the reference's, and lists of bytes held against each other. -/
set_option linter.unusedVariables false
set_option linter.unusedSimpArgs false
set_option maxRecDepth 20000
set_option maxHeartbeats 2000000
namespace Go.Proofs.Ytgcjipbahfpopaa
open Go Go.Mx Go.Proofs
open W (OwnB GivesW)
/-- a list of bytes' rows, in memory. -/
structure BsRow (w : World) (o : Own) (a : Option Addr) (c : Nat) (l : List BS) : Prop where
  row : Row w o a (l.map BS.v)
  oks : ∀ x ∈ l, BSok w o x
  le : l.length ≤ c
section
variable {w w' w1 : World} {o o' o1 : Own} {q g n N : Nat} {K : Nat → Prop} {b : List UInt8} {a : Option Addr} {c : Nat} {l : List BS}
theorem BsRow.step (h : BsRow w o a c l) (s : Step K w o w' o') : BsRow w' o' a c l := ⟨h.row.step s, fun x hx => (h.oks x hx).step s, h.le⟩
theorem BsRow.nil (w : World) (o : Own) : BsRow w o none 0 [] := ⟨Row.nil _ _ _, fun x h => (by cases h), Nat.le_refl _⟩
/-- a list of one's own, that grows. -/
structure BsL (N : Nat) (w : World) (o : Own) (a : Option Addr) (c : Nat) (l : List BS) : Prop where
  row : LRow 23 1 N w o a l.length c (l.map BS.v)
  oks : ∀ x ∈ l, BSok w o x
theorem BsL.nil (N : Nat) (w : World) (o : Own) : BsL N w o none 0 [] := ⟨LRow.nil _ _ _ _ _, fun x h => (by cases h)⟩
theorem BsL.step (h : BsL N w o a c l) (s : Step K w o w' o') (hk : ∀ k, K k → k < N ∨ w.heap.size ≤ k) : BsL N w' o' a c l := ⟨h.row.step s hk, fun x hx => (h.oks x hx).step s⟩
theorem BsL.give {w0 : World} {o0 : Own} (h : BsL N w1 o1 a c l) (s : Step K w0 o0 w1 o1) (hN : w0.heap.size ≤ N) : BsRow w1 (grow w0 o0) a c l :=
  ⟨h.row.give s hN, fun x hx => ⟨(h.oks x hx).1.forget s, (h.oks x hx).2⟩, h.row.le⟩
theorem BsL.push (h : BsL N w o a c l) (ok : Tags w o) (hl : l.length < 1000000) {x : BS} (hx : BSok w o x) {ww : World} {qq : Nat} (X : Ext no w ww) (hb : Blk ww qq 23 [x.v]) (h1 : w.heap.size ≤ qq) (h2 : qq < ww.heap.size) (hN : N ≤ w.heap.size) :
    ∃ a' c' w' o', (Builtin.append_ #[25, 25] 25 #[.slice a l.length c, .slice (some (blk qq)) 1 1]).run Try.prog ww = .ok (.slice a' (l ++ [x]).length c') w' ∧ Step (fun j => N ≤ j) w o w' o' ∧ BsL N w' o' a' c' (l ++ [x]) := by
  have s1 := Step.of_no X ok
  have hr := h.row.step s1 fun k h => h.elim
  obtain ⟨i, hi, hz, hsz, hby⟩ := info_of inf23
  obtain ⟨a', c', w', o', hrun, s2, hrow, hX⟩ := hr.push (ty := 25) Try.underlying25 hi hz hsz hby rfl (by decide) s1.ok (p := qq) (by omega) h2 (xa := some (blk qq)) (m := 1) (xc := 1) (news := [x.v]) rfl (RowAt.of_blk hb) (fun u hu => by simp at hu; subst hu; rfl) (by omega) (by omega)
  refine ⟨a', c', w', o', by rw [List.length_append]; exact hrun, s1.none.trans s2, ⟨?_, fun y hy => ?_⟩⟩
  · rw [List.length_append, List.map_append]; exact hrow
  · rcases List.mem_append.1 hy with hy | hy
    · exact ((h.oks y hy).step s1).step s2
    · simp at hy; subst hy; exact (hx.step s1).step s2
theorem mk_sector (w : World) : ∃ w', (Instr.makeSlice 67 (.int .i64 0) (.int .i64 64)).run Try.prog w = .ok (.slice (some (blk w.heap.size)) 0 64) w' ∧ Ext no w w' ∧ Blk w' w.heap.size 5 (bytesV (List.replicate 64 0)) ∧ w.heap.size < w'.heap.size := by
  obtain ⟨i, hi, hz, hs, hb⟩ := info_of W.infU8
  have hmk := run_makeSlice (P := Try.prog) (w := w) 67 5 i _ Try.underlying67 hi hz .i64 .i64 0 64 (by omega) (by decide) (by rw [hs]; decide) (by rw [hb]; decide) (by decide)
  rw [hs] at hmk
  have hcells : (madeCells (Value.int .u8 0).cells ((64 : Int).toNat * 1)) = (bytesV (List.replicate 64 0)).toArray := by
    apply Array.ext'
    rw [show (Value.int .u8 0).cells = #[Value.int .u8 0] from rfl, toList_madeCells_one]
    show List.replicate 64 _ = bytesV _
    rw [bytesV, List.map_replicate]; rfl
  rw [hcells] at hmk
  exact ⟨_, hmk, (Ext.refl _ _).alloc _, Blk.new _ _ _, by simp⟩
theorem part_bound {t : Nat} (ht : t < partsN b.length) : 48 * t ≤ b.length ∧ b.length ≤ 4000 ∧ t < 84 := by
  have h84 := partsN_le b.length
  unfold partsN at ht
  split at ht
  · omega
  · split at ht <;> omega
theorem part_row {t : Nat} (hb : RowAt w a (bytesV b)) (hc : b.length ≤ c) : RowAt w (cutA a c (48 * t) 1) (bytesV (partL b t)) := by
  have h := (hb.cut (48 * t) c (by rw [bytesV_length]; exact hc)).take 48
  unfold partL bytesV
  rw [List.map_take, List.map_drop]
  exact h
theorem fFrame_spec (ok : Tags w o) (hb : RowAt w a (bytesV b)) (hc : b.length ≤ c) (hl : b.length < 1000000) (gen round seq : Nat) :
    Calls Try.prog 9 #[.int .u32 gen, .int .u32 round, .int .u32 seq, .slice a b.length c] w (fun z w' => ∃ o' oa oc, ∃ l : List BS, z = .returned (.tuple #[.slice oa l.length oc, .int .i64 (frameK gen round seq b).2]) ∧ Step no w o w' o' ∧ l.map BS.bs = (frameK gen round seq b).1 ∧ BsRow w' o' oa oc l) := by
  refine (journal_Frame.go gen round seq a b.length c (R := fun z w' => ∃ o' oa oc, ∃ l : List BS, z = (.tuple #[.slice oa l.length oc, .int .i64 (frameK gen round seq b).2]) ∧ Step no w o w' o' ∧ l.map BS.bs = (frameK gen round seq b).1 ∧ BsRow w' o' oa oc l) ?_).mono fun z w' ⟨u, he, o', oa, oc, l, hu, hw⟩ => ⟨o', oa, oc, l, by rw [he, hu], hw⟩
  unfold journal_Frame.N
  rw [parts_F, partsI_nat]
  have leaf : ∀ {w2 : World} (k : Int), frameK gen round seq b = ([], k) → Ext no w w2 → ∃ o' oa oc, ∃ l : List BS, Value.tuple #[.slice none 0 0, .int .i64 k] = (.tuple #[.slice oa l.length oc, .int .i64 (frameK gen round seq b).2]) ∧ Step no w o w2 o' ∧ l.map BS.bs = (frameK gen round seq b).1 ∧ BsRow w2 o' oa oc l := fun k hk X => ⟨_, none, 0, [], by rw [hk]; rfl, Step.of_no X ok, by rw [hk]; rfl, BsRow.nil _ _⟩
  have hp0 : (partsN b.length : Int) = 0 ↔ b.length > 4000 := by
    unfold partsN
    split
    · simp; omega
    · split
      · simp; omega
      · omega
  refine ⟨fun h w2 X => leaf 3 (by unfold frameK; rw [if_pos (hp0.1 h)]) X, fun h => ?_⟩
  have h4 : ¬ b.length > 4000 := fun h' => h (hp0.2 h')
  refine ⟨fun h1 w2 X => leaf 1 (by unfold frameK; rw [if_neg h4, if_pos (.inl (by omega))]) X, fun h1 => ⟨fun h2 w2 X => leaf 1 (by unfold frameK; rw [if_neg h4, if_pos (.inr (by omega))]) X, fun h2 w5 X5 => ?_⟩⟩
  have hK : frameK gen round seq b = (frameL gen round seq b, 0) := by unfold frameK; rw [if_neg h4, if_neg (by omega)]
  rw [hK]
  have s5 := Step.of_no X5 ok
  refine ⟨fun m vs w1 => ∃ (t : Nat) (o1 : Own) (oa : Option Addr) (oc : Nat) (l : List BS), vs = [.slice oa l.length oc, .int .i64 t] ∧ m + t = partsN b.length ∧ Step no w o w1 o1 ∧ BsL w.heap.size w1 o1 oa oc l ∧ l.map BS.bs = (List.range t).map (fun i => secL gen round seq i (partsN b.length) (partL b i)), partsN b.length, ⟨0, _, none, 0, [], rfl, rfl, s5, BsL.nil _ _ _, rfl⟩, ?_⟩
  rintro m w13 oa on oc i ⟨t, o13, oa1, oc1, l, hi, hm, s13, hL, hmap⟩
  simp only [List.cons.injEq, Value.slice.injEq, Value.int.injEq, true_and, and_true] at hi
  obtain ⟨⟨rfl, rfl, rfl⟩, rfl⟩ := hi
  refine ⟨fun ht => ?_, fun ht => ?_⟩
  rotate_left
  · have htt : t = partsN b.length := by omega
    subst htt
    exact ⟨_, oa, oc, l, rfl, Step.of_no (s13.ext.mono fun b ⟨_, _, h⟩ _ => h) ok, hmap, hL.give s13 (Nat.le_refl _)⟩
  have htl : t < partsN b.length := by omega
  obtain ⟨hb1, hb2, hb3⟩ := part_bound htl
  have hlen : l.length = t := by have := congrArg List.length hmap; simpa using this
  have hpl : (partL b t).length = min 48 (b.length - 48 * t) := by unfold partL; rw [List.length_take, List.length_drop]
  have hcut : Int.toNat (if (b.length : Int) < (48 : Int) * ((t : Int) + 1) then (b.length : Int) else (48 : Int) * ((t : Int) + 1)) - Int.toNat ((48 : Int) * (t : Int)) = (partL b t).length := by
    rw [hpl]; split <;> omega
  have hcut2 : Int.toNat ((48 : Int) * (t : Int)) = 48 * t := by omega
  refine ⟨by omega, by omega, by omega, by omega, by omega, by omega, by split <;> omega, by split <;> omega, by omega, by split <;> omega, ?_⟩
  rw [hcut, hcut2]
  have hb13 : RowAt w13 a (bytesV b) := hb.no (s13.ext.mono fun b ⟨_, _, h⟩ _ => h)
  obtain ⟨w16, hmk, X16, hbg, hg⟩ := mk_sector w13
  refine ⟨_, _, _, w16, hmk, fun w17 q X17 hbq hq hq' => ?_⟩
  have g17 := hbg.ext X17 id
  have hne : q ≠ w13.heap.size := by omega
  refine ⟨hbq.cana (i := 0) rfl, thenW_in fun w19 e19 => ?_⟩
  have SB19 : SB w19 q w13.heap.size [] := ⟨hbq.seti 0 rfl e19, g17.oth rfl (fun e => hne e.symm) e19, hne, by decide⟩
  have X19 : Ext no w13 w19 := (X16.trans X17).x_set (q := q) (i := 0) rfl (.inr (by omega)) e19
  have l16 := X16.size
  have own : ∀ {w2 w3 : World}, Ext no w13 w2 → Ext (fun b => b = q ∨ b = w13.heap.size) w2 w3 → Ext no w13 w3 := fun h k => h.then k fun b hb => .inr (by omega)
  intro w20 q21 X20 hb21 hq21 hq21'
  have lit1 : RowAt w20 (some (blk q21)) (bytesV [197]) := RowAt.of_blk hb21
  refine (put_spec (xc := 1) (SB19.no X20) lit1 (by decide)).mono fun u w23 ⟨he, S23, X23⟩ => ⟨he, ?_⟩
  have X23 := own (X19.trans X20) X23
  refine (number_spec (m := gen) S23 (by decide)).mono fun u w25 ⟨he, S25, X25⟩ => ⟨he, ?_⟩
  have X25 := own X23 X25
  refine (number_spec (m := round) S25 (by simp [be4])).mono fun u w27 ⟨he, S27, X27⟩ => ⟨he, ?_⟩
  have X27 := own X25 X27
  refine (number_spec (m := seq) S27 (by simp [be4])).mono fun u w29 ⟨he, S29, X29⟩ => ⟨he, ?_⟩
  have X29 := own X27 X29
  intro w30 q31 X30 hb31 hq31 hq31'
  have lit3 : RowAt w30 (some (blk q31)) (bytesV [UInt8.ofNat t, UInt8.ofNat (partsN b.length), UInt8.ofNat (partL b t).length]) := by
    have := RowAt.of_blk hb31
    rw [wrapU8i (Int.natCast_nonneg t), wrapU8i (Int.natCast_nonneg (partsN b.length)), wrapU8i (Int.natCast_nonneg (partL b t).length)] at this
    exact this
  refine (put_spec (xc := 3) (S29.no X30) lit3 (by simp [be4])).mono fun u w33 ⟨he, S33, X33⟩ => ⟨he, ?_⟩
  have X33 := own (X29.trans X30) X33
  have hple := partL_le b t
  refine (put_spec S33 (part_row (hb13.no X33) hc) (by simp [be4]; omega)).mono fun u w35 ⟨he, S35, X35⟩ => ⟨he, ?_⟩
  have X35 := own X33 X35
  refine ⟨_, _, _, S35.p.cella (i := 0) rfl, by decide, fun w38 q39 X38 hb39 hq39 hq39' => ?_⟩
  have s35 := Step.of_no X35 s13.ok
  have hsec : [] ++ [197] ++ be4 gen ++ be4 round ++ be4 seq ++ [UInt8.ofNat t, UInt8.ofNat (partsN b.length), UInt8.ofNat (partL b t).length] ++ partL b t ++ List.replicate (64 - ([] ++ [197] ++ be4 gen ++ be4 round ++ be4 seq ++ [UInt8.ofNat t, UInt8.ofNat (partsN b.length), UInt8.ofNat (partL b t).length] ++ partL b t).length) 0 = secL gen round seq t (partsN b.length) (partL b t) := by
    unfold secL headL
    have : 64 - ([] ++ [197] ++ be4 gen ++ be4 round ++ be4 seq ++ [UInt8.ofNat t, UInt8.ofNat (partsN b.length), UInt8.ofNat (partL b t).length] ++ partL b t).length = 48 - (partL b t).length := by simp [be4] <;> omega
    rw [this]; rfl
  have hbl := S35.b
  rw [hsec] at hbl
  have hsl := secL_len gen round seq t (partsN b.length) hple
  have okx : BSok w35 (grow w13 o13) ⟨some (blk w13.heap.size), 64, secL gen round seq t (partsN b.length) (partL b t)⟩ := ⟨Row.fresh (RowAt.of_blk hbl) fun ad ha => by cases ha; exact Nat.le_refl _, by show (secL _ _ _ _ _ _).length ≤ 64; omega⟩
  have hb39' : Blk w38 q39 23 [BS.v ⟨some (blk w13.heap.size), 64, secL gen round seq t (partsN b.length) (partL b t)⟩] := by
    unfold BS.v; rw [hsl]; exact hb39
  have l13 := s13.size
  obtain ⟨a', c', w41, o41, hr, s41, L41⟩ := (hL.step s35 fun _ h => h.elim).push s35.ok (by omega) okx X38 hb39' hq39 hq39' (by have := X35.size; omega)
  refine ⟨a', _, c', w41, hr, by omega, by omega, m - 1, by omega, t + 1, o41, a', c', _, ?_, by omega, (s13.trans s35).trans' s41 fun i hi => .inr hi, L41, ?_⟩
  · rfl
  · rw [List.map_append, hmap, List.range_succ, List.map_append]; rfl
end
end Go.Proofs.Ytgcjipbahfpopaa

/- Journal: the reference's Frame; lists of bytes held against each other. -/
set_option linter.unusedVariables false
set_option linter.unusedSimpArgs false
set_option maxRecDepth 20000
set_option maxHeartbeats 2000000
namespace Go.Proofs.Ytgcjipbahfpopaa
open Go Go.Mx Go.Proofs
open W (OwnB GivesW)
section
variable {w w' w1 : World} {o o' o1 : Own} {q g n N : Nat} {K : Nat → Prop} {b : List UInt8} {a : Option Addr} {c : Nat} {l : List BS}
theorem u8mod (k : Nat) : UInt8.ofNat (k % 256) = UInt8.ofNat k := by
  apply UInt8.toNat_inj.1
  simp
theorem four_spec {m : Nat} (hm : m < 4294967296) (w : World) :
    Calls Try.prog 36 #[.int .u32 m] w (fun z w' => ∃ q, z = .returned (.slice (some (blk q)) 4 4) ∧ w.heap.size ≤ q ∧ Ext no w w' ∧ Blk w' q 5 (bytesV (be4 m))) := by
  refine (cachetteref10_four.go m (R := fun z w' => ∃ q, z = (.slice (some (blk q)) 4 4) ∧ w.heap.size ≤ q ∧ Ext no w w' ∧ Blk w' q 5 (bytesV (be4 m))) ?_).mono fun z w' ⟨u, he, q, hu, hw⟩ => ⟨q, by rw [he, hu], hw⟩
  unfold cachetteref10_four.N
  intro w2 q3 X2 hb hq hq'
  have d : ∀ k : Nat, 0 < k → Int.tdiv (m : Int) (k : Int) = ((m / k : Nat) : Int) := fun k hk => by rw [Int.tdiv_eq_ediv_of_nonneg (by omega)]; rfl
  have e0 : IntKind.u32.wrap (Int.tdiv (m : Int) 16777216) = ((m / 16777216 : Nat) : Int) := by
    rw [show Int.tdiv (m : Int) 16777216 = _ from d 16777216 (by decide), IntKind.wrap_u32]; omega
  have e1 : Int.tmod (IntKind.u32.wrap (Int.tdiv (m : Int) 65536)) 256 = ((m / 65536 % 256 : Nat) : Int) := by
    rw [show Int.tdiv (m : Int) 65536 = _ from d 65536 (by decide), IntKind.wrap_u32, Int.tmod_eq_emod_of_nonneg (by omega)]; omega
  have e2 : Int.tmod (IntKind.u32.wrap (Int.tdiv (m : Int) 256)) 256 = ((m / 256 % 256 : Nat) : Int) := by
    rw [show Int.tdiv (m : Int) 256 = _ from d 256 (by decide), IntKind.wrap_u32, Int.tmod_eq_emod_of_nonneg (by omega)]; omega
  have e3 : Int.tmod (m : Int) 256 = ((m % 256 : Nat) : Int) := by rw [Int.tmod_eq_emod_of_nonneg (by omega)]; rfl
  refine ⟨q3, rfl, hq, X2, ?_⟩
  rw [e0, e1, e2, e3, wrapU8i (Int.natCast_nonneg _), wrapU8i (Int.natCast_nonneg _), wrapU8i (Int.natCast_nonneg _), wrapU8i (Int.natCast_nonneg _), Int.toNat_natCast, Int.toNat_natCast, Int.toNat_natCast, Int.toNat_natCast, u8mod, u8mod, u8mod] at hb
  exact hb
/-- one's own bytes, and more behind them. -/
theorem appB {w0 wi w1 : World} {N : Nat} {a xa : Option Addr} {c xc : Nat} {l x : List UInt8} (hB : OwnB N wi a c l) (X : Ext no w0 wi) (h0 : w0.heap.size ≤ N) (hN : N ≤ wi.heap.size) (hx : Ext no wi w1) (hO : RowAt w1 xa (bytesV x)) (hl : l.length + x.length ≤ 100000000) :
    ∃ a' c' w', (Builtin.append_ #[23, 23] 23 #[.slice a l.length c, .slice xa x.length xc]).run Try.prog w1 = .ok (.slice a' (l ++ x).length c') w' ∧ OwnB N w' a' c' (l ++ x) ∧ Ext no w0 w' ∧ N ≤ w'.heap.size := by
  obtain ⟨a', c', w', hr, hO2, hx2⟩ := (W.OwnB.no hB hx).append (t := 23) (ty := 23) Try.underlying23 (Nat.le_trans hN hx.size) (xc := xc) hO hl
  exact ⟨a', c', w', hr, hO2, (X.trans hx).then hx2 fun b hb => .inr (Nat.le_trans h0 hb), Nat.le_trans hN (Nat.le_trans hx.size hx2.size)⟩
/-- one's own bytes that are nobody's stay. -/
theorem own_stay {x : BS} (h : OwnB N w x.a x.c x.bs) (hr : BSok w o x) (hne : x.bs ≠ []) (s : Step K w o w' o') : OwnB N w' x.a x.c x.bs :=
  W.OwnB.ext h s.ext fun ad ha ⟨k, hk, _⟩ => by
    have h0 : bytesV x.bs ≠ [] := fun e => hne (by simpa [bytesV] using e)
    rw [hr.1.2 h0 ad ha] at hk; cases hk
theorem rFrame_spec (ok : Tags w o) (hb : RowAt w a (bytesV b)) (hc : b.length ≤ c) (hl : b.length < 1000000) {gen round seq : Nat} (hg : gen < 4294967296) (hro : round < 4294967296) (hse : seq < 4294967296) :
    Calls Try.prog 10 #[.int .u32 gen, .int .u32 round, .int .u32 seq, .slice a b.length c] w (fun z w' => ∃ o' oa oc, ∃ l : List BS, z = .returned (.tuple #[.slice oa l.length oc, .int .i64 (frameK gen round seq b).2]) ∧ Step no w o w' o' ∧ l.map BS.bs = (frameK gen round seq b).1 ∧ BsRow w' o' oa oc l ∧ ∀ x ∈ l, OwnB w.heap.size w' x.a x.c x.bs) := by
  refine (cachetteref10_Frame.go gen round seq a b.length c (R := fun z w' => ∃ o' oa oc, ∃ l : List BS, z = (.tuple #[.slice oa l.length oc, .int .i64 (frameK gen round seq b).2]) ∧ Step no w o w' o' ∧ l.map BS.bs = (frameK gen round seq b).1 ∧ BsRow w' o' oa oc l ∧ ∀ x ∈ l, OwnB w.heap.size w' x.a x.c x.bs) ?_).mono fun z w' ⟨u, he, o', oa, oc, l, hu, hw⟩ => ⟨o', oa, oc, l, by rw [he, hu], hw⟩
  unfold cachetteref10_Frame.N
  rw [refParts_F, partsI_nat]
  have leaf : ∀ {w2 : World} (k : Int), frameK gen round seq b = ([], k) → Ext no w w2 → ∃ o' oa oc, ∃ l : List BS, Value.tuple #[.slice none 0 0, .int .i64 k] = (.tuple #[.slice oa l.length oc, .int .i64 (frameK gen round seq b).2]) ∧ Step no w o w2 o' ∧ l.map BS.bs = (frameK gen round seq b).1 ∧ BsRow w2 o' oa oc l ∧ ∀ x ∈ l, OwnB w.heap.size w2 x.a x.c x.bs := fun k hk X => ⟨_, none, 0, [], by rw [hk]; rfl, Step.of_no X ok, by rw [hk]; rfl, BsRow.nil _ _, fun x hx => by cases hx⟩
  refine ⟨fun h => leaf 3 (by unfold frameK; rw [if_pos (by omega)]) (Ext.refl _ _), fun h => ?_⟩
  have h4 : ¬ b.length > 4000 := by omega
  refine ⟨fun h1 => leaf 1 (by unfold frameK; rw [if_neg h4, if_pos (.inl (by omega))]) (Ext.refl _ _), fun h1 => ⟨fun h2 => leaf 1 (by unfold frameK; rw [if_neg h4, if_pos (.inr (by omega))]) (Ext.refl _ _), fun h2 w5 X5 => ?_⟩⟩
  have hK : frameK gen round seq b = (frameL gen round seq b, 0) := by unfold frameK; rw [if_neg h4, if_neg (by omega)]
  rw [hK]
  have s5 := Step.of_no X5 ok
  refine ⟨fun m vs w1 => ∃ (t : Nat) (o1 : Own) (oa : Option Addr) (oc : Nat) (l : List BS), vs = [.slice oa l.length oc, .int .i64 t] ∧ m + t = partsN b.length ∧ Step no w o w1 o1 ∧ BsL w.heap.size w1 o1 oa oc l ∧ l.map BS.bs = (List.range t).map (fun i => secL gen round seq i (partsN b.length) (partL b i)) ∧ (∀ x ∈ l, OwnB w.heap.size w1 x.a x.c x.bs ∧ x.bs ≠ []), partsN b.length, ⟨0, _, none, 0, [], rfl, rfl, s5, BsL.nil _ _ _, rfl, fun x hx => by cases hx⟩, ?_⟩
  rintro m w13 oa on oc i ⟨t, o13, oa1, oc1, l, hi, hm, s13, hL, hmap, hown⟩
  simp only [List.cons.injEq, Value.slice.injEq, Value.int.injEq, true_and, and_true] at hi
  obtain ⟨⟨rfl, rfl, rfl⟩, rfl⟩ := hi
  refine ⟨fun ht => ?_, fun ht => ?_⟩
  rotate_left
  · have htt : t = partsN b.length := by omega
    subst htt
    exact ⟨_, oa, oc, l, rfl, Step.of_no (s13.ext.mono fun b ⟨_, _, h⟩ _ => h) ok, hmap, hL.give s13 (Nat.le_refl _), fun x hx => (hown x hx).1⟩
  have htl : t < partsN b.length := by omega
  obtain ⟨hb1, hb2, hb3⟩ := part_bound htl
  have hlen : l.length = t := by have := congrArg List.length hmap; simpa using this
  have hpl : (partL b t).length = min 48 (b.length - 48 * t) := by unfold partL; rw [List.length_take, List.length_drop]
  have hcut : Int.toNat (if (b.length : Int) < ((48 : Int) * (t : Int)) + 48 then (b.length : Int) else ((48 : Int) * (t : Int)) + 48) - Int.toNat ((48 : Int) * (t : Int)) = (partL b t).length := by
    rw [hpl]; split <;> omega
  have hcut2 : Int.toNat ((48 : Int) * (t : Int)) = 48 * t := by omega
  refine ⟨by omega, by omega, by omega, by omega, by omega, by omega, by split <;> omega, by split <;> omega, by omega, by split <;> omega, ?_⟩
  rw [hcut, hcut2]
  have hb13 : RowAt w13 a (bytesV b) := hb.no (s13.ext.mono fun b ⟨_, _, h⟩ _ => h)
  intro w15 q16 X15 hb16 hq16 hq16'
  have O15 : OwnB w13.heap.size w15 (some (blk q16)) 1 [197] := ⟨owns_of_blk hb16 rfl (by unfold maxLen; decide), fun ad ha => by cases ha; exact ⟨hq16, hq16'⟩⟩
  have l15 := X15.size
  have hple := partL_le b t
  refine (four_spec hg w15).mono fun u w19 ⟨q1, he, _, X19, hb1'⟩ => ⟨_, _, _, he, ?_⟩
  obtain ⟨a20, c20, w21, hr21, O21, X21, n21⟩ := appB (xc := 4) O15 X15 (Nat.le_refl _) l15 X19 (RowAt.of_blk hb1') (by simp [be4])
  refine ⟨a20, _, c20, w21, hr21, ?_⟩
  refine (four_spec hro w21).mono fun u w24 ⟨q2, he, _, X24, hb2'⟩ => ⟨_, _, _, he, ?_⟩
  obtain ⟨a25, c25, w26, hr26, O26, X26, n26⟩ := appB (xc := 4) O21 X21 (Nat.le_refl _) n21 X24 (RowAt.of_blk hb2') (by simp [be4])
  refine ⟨a25, _, c25, w26, hr26, ?_⟩
  refine (four_spec hse w26).mono fun u w29 ⟨q3, he, _, X29, hb3'⟩ => ⟨_, _, _, he, ?_⟩
  obtain ⟨a30, c30, w31, hr31, O31, X31, n31⟩ := appB (xc := 4) O26 X26 (Nat.le_refl _) n26 X29 (RowAt.of_blk hb3') (by simp [be4])
  refine ⟨a30, _, c30, w31, hr31, fun w32 q33 X32 hb33 hq33 hq33' => ?_⟩
  have lit3 : RowAt w32 (some (blk q33)) (bytesV [UInt8.ofNat t, UInt8.ofNat (partsN b.length), UInt8.ofNat (partL b t).length]) := by
    have := RowAt.of_blk hb33
    rw [wrapU8i (Int.natCast_nonneg t), wrapU8i (Int.natCast_nonneg (partsN b.length)), wrapU8i (Int.natCast_nonneg (partL b t).length)] at this
    exact this
  obtain ⟨a34, c34, w35, hr35, O35, X35, n35⟩ := appB (xc := 3) O31 X31 (Nat.le_refl _) n31 X32 lit3 (by simp [be4])
  refine ⟨a34, _, c34, w35, hr35, ?_⟩
  obtain ⟨a36, c36, w37, hr37, O37, X37, n37⟩ := appB (xc := c - 48 * t) O35 X35 (Nat.le_refl _) n35 (Ext.refl no w35) (part_row (t := t) (hb13.no X35) hc) (by simp [be4]; omega)
  refine ⟨a36, _, c36, w37, hr37, ?_⟩
  have hbase : [197] ++ be4 gen ++ be4 round ++ be4 seq ++ [UInt8.ofNat t, UInt8.ofNat (partsN b.length), UInt8.ofNat (partL b t).length] ++ partL b t = headL gen round seq t (partsN b.length) (partL b t).length ++ partL b t := by simp [headL]
  rw [hbase] at O37 ⊢
  have hbl : (headL gen round seq t (partsN b.length) (partL b t).length ++ partL b t).length = 16 + (partL b t).length := by rw [List.length_append, headL_len]
  generalize hB : headL gen round seq t (partsN b.length) (partL b t).length ++ partL b t = base at *
  refine ⟨fun m vs w1 => ∃ (k : Nat) (sa : Option Addr) (sc : Nat), vs = [.slice sa (base ++ List.replicate k 0).length sc] ∧ m + base.length + k = 64 ∧ OwnB w13.heap.size w1 sa sc (base ++ List.replicate k 0) ∧ Ext no w13 w1 ∧ w13.heap.size ≤ w1.heap.size, 64 - base.length, ⟨0, a36, c36, by simp, by omega, by simpa using O37, X37, n37⟩, ?_⟩
  rintro m2 w41 sa sn sc ⟨k, sa', sc', hi, hm2, O41, X41, n41⟩
  simp only [List.cons.injEq, Value.slice.injEq, and_true] at hi
  obtain ⟨rfl, rfl, rfl⟩ := hi
  have hlk : (base ++ List.replicate k (0 : UInt8)).length = base.length + k := by simp
  refine ⟨fun hlt w43 q44 X43 hb44 hq44 hq44' => ?_, fun hge w48 q49 X48 hb49 hq49 hq49' => ?_⟩
  · have lit0 : RowAt w43 (some (blk q44)) (bytesV [0]) := RowAt.of_blk hb44
    obtain ⟨a45, c45, w46, hr46, O46, X46, n46⟩ := appB (xc := 1) O41 X41 (Nat.le_refl _) n41 X43 lit0 (by rw [hlk]; simp; omega)
    have hk1 : base ++ List.replicate k (0 : UInt8) ++ [0] = base ++ List.replicate (k + 1) 0 := by rw [List.append_assoc, List.replicate_succ']
    rw [hk1] at hr46 O46
    exact ⟨a45, _, c45, w46, hr46, m2 - 1, by omega, k + 1, a45, c45, rfl, by omega, O46, X46, n46⟩
  · have hk : k = 48 - (partL b t).length := by omega
    have hsec : base ++ List.replicate k 0 = secL gen round seq t (partsN b.length) (partL b t) := by unfold secL; rw [hB, hk]
    rw [hsec] at O41 hb49
    have s41 := Step.of_no X41 s13.ok
    have okx : BSok w41 (grow w13 o13) ⟨sa, sc, secL gen round seq t (partsN b.length) (partL b t)⟩ := ⟨Row.fresh O41.row fun ad ha => (O41.fr ad ha).1, O41.le⟩
    have l13 := s13.size
    obtain ⟨a', c', w51, o51, hr, s51, L51⟩ := (hL.step s41 fun _ h => h.elim).push s41.ok (by omega) okx X48 hb49 hq49 hq49' (by have := X41.size; omega)
    refine ⟨a', _, c', w51, hr, by omega, by omega, m - 1, by omega, t + 1, o51, a', c', _, rfl, by omega, (s13.trans s41).trans' s51 fun i hi => .inr hi, L51, by rw [List.map_append, hmap, List.range_succ, List.map_append]; rfl, fun x hx => ?_⟩
    have hne : secL gen round seq t (partsN b.length) (partL b t) ≠ [] := fun e => by have := secL_len gen round seq t (partsN b.length) hple; rw [e] at this; cases this
    rcases List.mem_append.1 hx with hx | hx
    · obtain ⟨p1, p2⟩ := hown x hx
      have q1 := own_stay p1 (hL.oks x hx) p2 s41
      exact ⟨own_stay q1 ((hL.oks x hx).step s41) p2 s51, p2⟩
    · simp at hx; subst hx
      exact ⟨own_stay (x := ⟨sa, sc, secL gen round seq t (partsN b.length) (partL b t)⟩) ⟨O41.own, fun ad ha => ⟨Nat.le_trans l13 (O41.fr ad ha).1, (O41.fr ad ha).2⟩⟩ okx hne s51, hne⟩
theorem lists_spec {aa ba : Option Addr} {ac bc : Nat} {l1 l2 : List BS} (h1 : RowAt w aa (l1.map BS.v)) (h2 : RowAt w ba (l2.map BS.v)) (k1 : ∀ x ∈ l1, RowAt w x.a (bytesV x.bs) ∧ x.bs.length < 1000000) (k2 : ∀ x ∈ l2, RowAt w x.a (bytesV x.bs)) (hl : l1.length < 1000000) :
    Calls Try.prog 11 #[.slice aa l1.length ac, .slice ba l2.length bc] w (Ret (.bool (decide (l1.map BS.bs = l2.map BS.bs))) fun w' => Ext no w w') := by
  refine cachetteref10_Lists.run _ _ _ _ _ _ ?_
  unfold cachetteref10_Lists.N
  have leafF : l1.map BS.bs ≠ l2.map BS.bs → ∀ {w2 : World}, Ext no w w2 → Value.bool false = .bool (decide (l1.map BS.bs = l2.map BS.bs)) ∧ Ext no w w2 := fun h _ X => ⟨by rw [decide_eq_false h], X⟩
  refine ⟨fun h => leafF (fun e => h (by have := congrArg List.length e; simp at this; omega)) (Ext.refl _ _), fun h => ?_⟩
  have hll : l1.length = l2.length := by omega
  refine ⟨fun m vs w1 => ∃ t : Nat, vs = [.int .i64 t] ∧ m + t = l1.length ∧ Ext no w w1 ∧ (l1.map BS.bs).take t = (l2.map BS.bs).take t, l1.length, ⟨0, rfl, rfl, Ext.refl _ _, rfl⟩, ?_⟩
  rintro m w7 i ⟨t, hi, hm, X7, htk⟩
  simp only [List.cons.injEq, Value.int.injEq, true_and, and_true] at hi
  subst hi
  refine ⟨fun ht => ?_, fun ht => ?_⟩
  rotate_left
  · have htt : t = l1.length := by omega
    rw [List.take_of_length_le (by simp; omega), List.take_of_length_le (by simp; omega)] at htk
    exact ⟨by rw [decide_eq_true htk], X7⟩
  have ht1 : t < l1.length := by omega
  have ht2 : t < l2.length := by omega
  have g1 : l1[t]? = some l1[t] := List.getElem?_eq_getElem ht1
  have g2 : l2[t]? = some l2[t] := List.getElem?_eq_getElem ht2
  obtain ⟨x1, x2⟩ := k1 _ (List.getElem_mem ht1)
  have y1 := k2 _ (List.getElem_mem ht2)
  have m1 : (l1.map BS.v)[t]? = some (BS.v l1[t]) := by rw [List.getElem?_map, g1]; rfl
  have m2 : (l2.map BS.v)[t]? = some (BS.v l2[t]) := by rw [List.getElem?_map, g2]; rfl
  have n1 : (l1.map BS.bs)[t]? = some (l1[t]).bs := by rw [List.getElem?_map, g1]; rfl
  have n2 : (l2.map BS.bs)[t]? = some (l2[t]).bs := by rw [List.getElem?_map, g2]; rfl
  generalize l1[t] = u at *
  generalize l2[t] = v at *
  obtain ⟨ad, rfl, c1⟩ := h1 t _ m1
  obtain ⟨bd, rfl, c2⟩ := h2 t _ m2
  refine ⟨ad, rfl, by omega, by omega, u.a, u.bs.length, u.c, by rw [Int.toNat_natCast, Nat.mul_one]; exact X7.cell c1 id, bd, rfl, by omega, by omega, v.a, v.bs.length, v.c, by rw [Int.toNat_natCast, Nat.mul_one]; exact X7.cell c2 id, fun w9 X9 => ?_⟩
  refine (W.sameB_spec ((x1.no X7).no X9) ((y1.no X7).no X9) x2).mono fun z w18 ⟨he, X18⟩ => ⟨_, he, fun hs => ?_, fun hs => ?_⟩
  · have hne := of_decide_eq_false hs
    exact leafF (fun e => hne (by rw [e, n2] at n1; injection n1 with n1; exact n1.symm)) ((X7.trans X9).trans X18)
  · have heq := of_decide_eq_true hs
    exact ⟨by omega, by omega, m - 1, by omega, t + 1, rfl, by omega, (X7.trans X9).trans X18, by rw [List.take_add_one, List.take_add_one, htk, n1, n2, heq]⟩
end
end Go.Proofs.Ytgcjipbahfpopaa

/- Journal: predicates of scans. -/
set_option linter.unusedVariables false
set_option linter.unusedSimpArgs false
set_option maxRecDepth 20000
set_option maxHeartbeats 2000000
namespace Go.Proofs.Ytgcjipbahfpopaa
open Go Go.Mx Go.Proofs
/-- bytes.Equal -/
def bytes_Equal.M (a5 : Option Addr) (a4 : Nat) (a0 : Nat) (a3 : Option Addr) (a2 : Nat) (a1 : Nat) (R : Value → World → Prop) (w : World) : Prop :=
 ∃ (s3 : ByteArray), (convert 23 9 (.slice a5 a4 a0)).run Try.prog w = .ok (.string s3) w ∧
 ∃ (s4 : ByteArray), (convert 23 9 (.slice a3 a2 a1)).run Try.prog w = .ok (.string s4) w ∧
 R (.bool (s3.toList == s4.toList)) w

theorem bytes_Equal.eq (a1a : Option Addr) (a1n : Nat) (a1c : Nat) (b2a : Option Addr) (b2n : Nat) (b2c : Nat) (R : Value → World → Prop) (w : World) : mfunc Try.prog [] 52 [.slice a1a a1n a1c, .slice b2a b2n b2c] R w = bytes_Equal.M a1a a1n a1c b2a b2n b2c R w := by kernel_rfl
theorem bytes_Equal.ok (a5 : Option Addr) (a4 : Nat) (a0 : Nat) (a3 : Option Addr) (a2 : Nat) (a1 : Nat) {R : Value → World → Prop} {w : World} (h : bytes_Equal.M a5 a4 a0 a3 a2 a1 R w) : Calls Try.prog 52 #[.slice a5 a4 a0, .slice a3 a2 a1] w fun e w' => ∃ v, e = .returned v ∧ R v w' :=
  mfunc_ok follows (H := []) (args := [.slice a5 a4 a0, .slice a3 a2 a1]) (by rw [bytes_Equal.eq]; exact h)

def bytes_Equal.N (a5 : Option Addr) (a4 : Nat) (a0 : Nat) (a3 : Option Addr) (a2 : Nat) (a1 : Nat) (R : Value → World → Prop) (w : World) : Prop :=
 ∃ (s3 : ByteArray), (convert 23 9 (.slice a5 a4 a0)).run Try.prog w = .ok (.string s3) w ∧
 ∃ (s5 : ByteArray), (convert 23 9 (.slice a3 a2 a1)).run Try.prog w = .ok (.string s5) w ∧
 R (.bool (s3.toList == s5.toList)) w

theorem bytes_Equal.up (a5 : Option Addr) (a4 : Nat) (a0 : Nat) (a3 : Option Addr) (a2 : Nat) (a1 : Nat) {R : Value → World → Prop} {w : World} (h : bytes_Equal.N a5 a4 a0 a3 a2 a1 R w) : bytes_Equal.M a5 a4 a0 a3 a2 a1 R w := by
  unfold bytes_Equal.M
  unfold bytes_Equal.N at h
  obtain ⟨s3, a7, h⟩ := h
  refine ⟨s3, a7, ?_⟩
  obtain ⟨s5, a6, h⟩ := h
  refine ⟨s5, a6, ?_⟩
  exact h

theorem bytes_Equal.go (a5 : Option Addr) (a4 : Nat) (a0 : Nat) (a3 : Option Addr) (a2 : Nat) (a1 : Nat) {R : Value → World → Prop} {w : World} (h : bytes_Equal.N a5 a4 a0 a3 a2 a1 R w) : Calls Try.prog 52 #[.slice a5 a4 a0, .slice a3 a2 a1] w fun e w' => ∃ v, e = .returned v ∧ R v w' := bytes_Equal.ok a5 a4 a0 a3 a2 a1 (bytes_Equal.up a5 a4 a0 a3 a2 a1 h)
theorem bytes_Equal.run (a5 : Option Addr) (a4 : Nat) (a0 : Nat) (a3 : Option Addr) (a2 : Nat) (a1 : Nat) {V : Value} {Q : World → Prop} {w : World} (h : bytes_Equal.N a5 a4 a0 a3 a2 a1 (fun v w' => v = V ∧ Q w') w) : Calls Try.prog 52 #[.slice a5 a4 a0, .slice a3 a2 a1] w (Ret V Q) := (bytes_Equal.go a5 a4 a0 a3 a2 a1 h).mono fun e w' ⟨v, he, hv, hq⟩ => ⟨by rw [he, hv], hq⟩

/-- slices.EqualFunc[[][]byte,[][]byte,[]byte,[]byte] -/
def slices_EqualFunc_byte_byte_byte_byte.M (al : Option Addr) (ab : Nat) (am : Nat) (ak : Option Addr) (ag : Nat) (an : Nat) (a3 : Nat) (aa : Array Value) (a7 : Array Value) (R : Value → World → Prop) (w : World) : Prop :=
 bif (ab : Int) != (ag : Int) then (
 R (.bool false) w) else (
 ∃ (I0 : Nat → List Value → World → Prop) (m5 : Nat), I0 m5 [.int .i64 0] w ∧ ∀ (m6 : Nat) (a5 : World) (t4 : Int), I0 m6 [.int .i64 t4] a5 →
 bif decide (t4 < (ab : Int)) then (
 al.elim False fun a8 =>
 0 ≤ (t4 : Int) ∧ (t4 : Int) < (ab : Int) ∧
 ∃ (ac : Option Addr) (ae : Nat) (ad : Nat), a5.cell? (a8.add (Int.toNat t4 * 1)) = some (.slice ac ae ad) ∧
 ak.elim False fun aj =>
 0 ≤ (t4 : Int) ∧ (t4 : Int) < (ag : Int) ∧
 ∃ (a0 : Option Addr) (a1 : Nat) (a2 : Nat), a5.cell? (aj.add (Int.toNat t4 * 1)) = some (.slice a0 a1 a2) ∧
 bif enters Try.prog a3 then Calls Try.prog a3 (aa.toList ++ ([.slice ac ae ad, .slice a0 a1 a2] : List Value) ++ a7.toList).toArray a5 (fun af a6 => ∃ (a9 : Bool), af = .returned (.bool a9) ∧
 bif !a9 then (
 R (.bool false) a6) else (
 ∃ ai, ai < m6 ∧ I0 ai [.int .i64 (IntKind.i64.wrap (t4 + 1))] a6)) else (∃ (a9 : Bool) (a4 : World), (externCall a3 (aa.toList ++ ([.slice ac ae ad, .slice a0 a1 a2] : List Value) ++ a7.toList).toArray).run Try.prog a5 = .ok (.bool a9) a4 ∧
 bif !a9 then (
 R (.bool false) a4) else (
 ∃ ah, ah < m6 ∧ I0 ah [.int .i64 (IntKind.i64.wrap (t4 + 1))] a4))) else (
 R (.bool true) a5))

theorem slices_EqualFunc_byte_byte_byte_byte.eq (s1a : Option Addr) (s1n : Nat) (s1c : Nat) (s2a : Option Addr) (s2n : Nat) (s2c : Nat) (eq3k : Nat) (eq3f : Array Value) (eq3g : Array Value) (R : Value → World → Prop) (w : World) : mfunc Try.prog [(0, [1, 2, 15, 16], [(17, (.one (.int .i64)))])] 51 [.slice s1a s1n s1c, .slice s2a s2n s2c, .func (.func eq3k) eq3f eq3g] R w = slices_EqualFunc_byte_byte_byte_byte.M s1a s1n s1c s2a s2n s2c eq3k eq3f eq3g R w := by kernel_rfl
theorem slices_EqualFunc_byte_byte_byte_byte.ok (a8 : Option Addr) (a5 : Nat) (a6 : Nat) (a4 : Option Addr) (a7 : Nat) (a3 : Nat) (a0 : Nat) (a1 : Array Value) (a2 : Array Value) {R : Value → World → Prop} {w : World} (h : slices_EqualFunc_byte_byte_byte_byte.M a8 a5 a6 a4 a7 a3 a0 a1 a2 R w) : Calls Try.prog 51 #[.slice a8 a5 a6, .slice a4 a7 a3, .func (.func a0) a1 a2] w fun e w' => ∃ v, e = .returned v ∧ R v w' :=
  mfunc_ok follows (H := [(0, [1, 2, 15, 16], [(17, (.one (.int .i64)))])]) (args := [.slice a8 a5 a6, .slice a4 a7 a3, .func (.func a0) a1 a2]) (by rw [slices_EqualFunc_byte_byte_byte_byte.eq]; exact h)

def slices_EqualFunc_byte_byte_byte_byte.N (aj : Option Addr) (a0 : Nat) (ak : Nat) (ai : Option Addr) (ab : Nat) (al : Nat) (a3 : Nat) (ae : Array Value) (ad : Array Value) (R : Value → World → Prop) (w : World) : Prop :=
 ((a0 : Int) ≠ (ab : Int) →
 R (.bool false) w) ∧
 ((a0 : Int) = (ab : Int) →
 ∃ (I0 : Nat → List Value → World → Prop) (m6 : Nat), I0 m6 [.int .i64 0] w ∧ ∀ (m7 : Nat) (a9 : World) (t5 : Int), I0 m7 [.int .i64 t5] a9 →
 (t5 < (a0 : Int) →
 ∃ ah : Addr, aj = some ah ∧
 0 ≤ (t5 : Int) ∧ (t5 : Int) < (a0 : Int) ∧
 ∃ (a6 : Option Addr) (a1 : Nat) (a2 : Nat), a9.cell? (ah.add (Int.toNat t5 * 1)) = some (.slice a6 a1 a2) ∧
 ∃ af : Addr, ai = some af ∧
 0 ≤ (t5 : Int) ∧ (t5 : Int) < (ab : Int) ∧
 ∃ (a4 : Option Addr) (a7 : Nat) (a8 : Nat), a9.cell? (af.add (Int.toNat t5 * 1)) = some (.slice a4 a7 a8) ∧
 enters Try.prog a3 = true ∧ Calls Try.prog a3 (ae.toList ++ ([.slice a6 a1 a2, .slice a4 a7 a8] : List Value) ++ ad.toList).toArray a9 (fun aa a5 => ∃ (ac : Bool), aa = .returned (.bool ac) ∧
 (ac = false →
 R (.bool false) a5) ∧
 (ac = true →
 (-9223372036854775808 : Int) ≤ (t5 + 1) ∧ (t5 + 1) < 9223372036854775808 ∧
 ∃ ag, ag < m7 ∧ I0 ag [.int .i64 (t5 + 1)] a5))) ∧
 ((a0 : Int) ≤ t5 →
 R (.bool true) a9))

theorem slices_EqualFunc_byte_byte_byte_byte.up (ak : Option Addr) (ag : Nat) (aj : Nat) (ah : Option Addr) (ai : Nat) (al : Nat) (a0 : Nat) (a2 : Array Value) (a1 : Array Value) {R : Value → World → Prop} {w : World} (h : slices_EqualFunc_byte_byte_byte_byte.N ak ag aj ah ai al a0 a2 a1 R w) : slices_EqualFunc_byte_byte_byte_byte.M ak ag aj ah ai al a0 a2 a1 R w := by
  unfold slices_EqualFunc_byte_byte_byte_byte.M
  unfold slices_EqualFunc_byte_byte_byte_byte.N at h
  refine bif_of (fun c4 => ?_) (fun c4 => ?_)
  · have h := h.1 (bne_t c4)
    exact h
  · have h := h.2 (bne_f c4)
    obtain ⟨I0, m6, h0, h⟩ := h
    refine ⟨I0, m6, h0, fun m7 aq t5 hI => ?_⟩
    have h := h m7 aq t5 hI
    refine bif_of (fun c9 => ?_) (fun c9 => ?_)
    · have h := h.1 (of_decide_eq_true c9)
      obtain ⟨aw, a6, h⟩ := h
      refine elim_some a6 ?_
      obtain ⟨a3, a7, h⟩ := h
      refine ⟨a3, a7, ?_⟩
      obtain ⟨ab, a5, a8, a4, h⟩ := h
      refine ⟨ab, a5, a8, a4, ?_⟩
      obtain ⟨av, a9, h⟩ := h
      refine elim_some a9 ?_
      obtain ⟨a3, a7, h⟩ := h
      refine ⟨a3, a7, ?_⟩
      obtain ⟨aa, ac, ae, ad, h⟩ := h
      refine ⟨aa, ac, ae, ad, ?_⟩
      obtain ⟨hen, h⟩ := h
      refine bif_tt hen ?_
      refine h.mono fun am ar h => ?_
      obtain ⟨ap, he, h⟩ := h
      refine ⟨ap, he, ?_⟩
      refine bif_of (fun af => ?_) (fun af => ?_)
      · have h := h.1 (not_t af)
        exact h
      · have h := h.2 (not_f af)
        obtain ⟨au, ao, h⟩ := h
        try rw [w64 au ao]
        obtain ⟨an, hk, h⟩ := h
        exact ⟨an, hk, h⟩
    · have h := h.2 (Int.not_lt.1 (of_decide_eq_false c9))
      exact h

theorem slices_EqualFunc_byte_byte_byte_byte.go (a8 : Option Addr) (a5 : Nat) (a6 : Nat) (a4 : Option Addr) (a7 : Nat) (a3 : Nat) (a0 : Nat) (a1 : Array Value) (a2 : Array Value) {R : Value → World → Prop} {w : World} (h : slices_EqualFunc_byte_byte_byte_byte.N a8 a5 a6 a4 a7 a3 a0 a1 a2 R w) : Calls Try.prog 51 #[.slice a8 a5 a6, .slice a4 a7 a3, .func (.func a0) a1 a2] w fun e w' => ∃ v, e = .returned v ∧ R v w' := slices_EqualFunc_byte_byte_byte_byte.ok a8 a5 a6 a4 a7 a3 a0 a1 a2 (slices_EqualFunc_byte_byte_byte_byte.up a8 a5 a6 a4 a7 a3 a0 a1 a2 h)
theorem slices_EqualFunc_byte_byte_byte_byte.run (a8 : Option Addr) (a5 : Nat) (a6 : Nat) (a4 : Option Addr) (a7 : Nat) (a3 : Nat) (a0 : Nat) (a1 : Array Value) (a2 : Array Value) {V : Value} {Q : World → Prop} {w : World} (h : slices_EqualFunc_byte_byte_byte_byte.N a8 a5 a6 a4 a7 a3 a0 a1 a2 (fun v w' => v = V ∧ Q w') w) : Calls Try.prog 51 #[.slice a8 a5 a6, .slice a4 a7 a3, .func (.func a0) a1 a2] w (Ret V Q) := (slices_EqualFunc_byte_byte_byte_byte.go a8 a5 a6 a4 a7 a3 a0 a1 a2 h).mono fun e w' ⟨v, he, hv, hq⟩ => ⟨by rw [he, hv], hq⟩

/-- journal.record -/
def journal_record.M (am : Option Addr) (b0 : Nat) (ax : Nat) (b5 : Int) (b7 : Int) (R : Value → World → Prop) (w : World) : Prop :=
 bif (b0 : Int) == 0 then (
 R (.tuple #[.slice none 0 0, .int .i64 0]) w) else (
 am.elim False fun a4 =>
 0 ≤ (0 : Int) ∧ (0 : Int) < (b0 : Int) ∧
 ∃ (b8 : Option Addr) (bc : Nat) (ba : Nat), w.cell? (a4.add (Int.toNat 0 * 1)) = some (.slice b8 bc ba) ∧
 Calls Try.prog 38 #[.slice b8 bc ba] w fun bh az => ∃ (ay : Bool), bh = .returned (.bool ay) ∧
 bif !ay then (
 R (.tuple #[.slice none 0 0, .int .i64 0]) az) else (
 am.elim False fun a9 =>
 0 ≤ (0 : Int) ∧ (0 : Int) < (b0 : Int) ∧
 ∃ (ah : Option Addr) (aj : Nat) (ar : Nat), az.cell? (a9.add (Int.toNat 0 * 1)) = some (.slice ah aj ar) ∧
 ah.elim False fun bf =>
 0 ≤ (14 : Int) ∧ (14 : Int) < (aj : Int) ∧
 ∃ (ai : Int), az.cell? (bf.add (Int.toNat 14 * 1)) = some (.int .u8 ai) ∧
 bif decide ((IntKind.i64.wrap ai) > (b0 : Int)) then (
 R (.tuple #[.slice none 0 0, .int .i64 0]) az) else (
 (0 : Int) ≤ ((IntKind.i64.wrap ai) : Int) ∧ ((IntKind.i64.wrap ai) : Int) ≤ (ax : Int) ∧
 ∃ (I0 : Nat → List Value → World → Prop) (bi : Nat), I0 bi [.slice none 0 0, .int .i64 (IntKind.i64.wrap ai), .int .i64 0] az ∧ ∀ (b9 : Nat) (ae : World) (aa : Option Addr) (ad : Nat) (ab : Nat) (al : Int) (ak : Int), I0 b9 [.slice aa ad ab, .int .i64 al, .int .i64 ak] ae →
 bif decide (ak < (((Int.toNat (IntKind.i64.wrap ai)) - 0 : Nat) : Int)) then (
 (if ax = 0 then am else Option.map (fun z : Addr => z.add (0 * 1)) am).elim False fun bg =>
 0 ≤ (ak : Int) ∧ (ak : Int) < (((Int.toNat (IntKind.i64.wrap ai)) - 0 : Nat) : Int) ∧
 ∃ (a6 : Option Addr) (ac : Nat) (a7 : Nat), ae.cell? (bg.add (Int.toNat ak * 1)) = some (.slice a6 ac a7) ∧
 Calls Try.prog 38 #[.slice a6 ac a7] ae fun b4 a8 => ∃ (ag : Bool), b4 = .returned (.bool ag) ∧
 bif !ag then (
 R (.tuple #[.slice none 0 0, .int .i64 0]) a8) else (
 a6.elim False fun be =>
 0 ≤ (15 : Int) ∧ (15 : Int) < (ac : Int) ∧
 ∃ (bb : Int), a8.cell? (be.add (Int.toNat 15 * 1)) = some (.int .u8 bb) ∧
 bif decide (bb > 48) then (
 R (.tuple #[.slice none 0 0, .int .i64 0]) a8) else (
 a6.elim False fun bj =>
 0 ≤ (15 : Int) ∧ (15 : Int) < (ac : Int) ∧
 ∃ (an : Int), a8.cell? (bj.add (Int.toNat 15 * 1)) = some (.int .u8 an) ∧
 (0 : Int) ≤ ((IntKind.i64.wrap ((16 : Int) + (IntKind.i64.wrap an))) : Int) ∧ ((IntKind.i64.wrap ((16 : Int) + (IntKind.i64.wrap an))) : Int) ≤ (a7 : Int) ∧ (0 : Int) ≤ (16 : Int) ∧ (16 : Int) ≤ ((IntKind.i64.wrap ((16 : Int) + (IntKind.i64.wrap an))) : Int) ∧
 ∃ (ap : Option Addr) (au : Nat) (aq : Nat) (av : World), (Builtin.append_ #[23, 23] 23 #[.slice aa ad ab, .slice (if a7 = Int.toNat 16 then a6 else Option.map (fun z : Addr => z.add ((Int.toNat 16) * 1)) a6) ((Int.toNat (IntKind.i64.wrap ((16 : Int) + (IntKind.i64.wrap an)))) - (Int.toNat 16)) (a7 - (Int.toNat 16))]).run Try.prog a8 = .ok (.slice ap au aq) av ∧
 ∃ bd, bd < b9 ∧ I0 bd [.slice ap au aq, .int .i64 al, .int .i64 (IntKind.i64.wrap (ak + 1))] av))) else (
 Calls Try.prog 39 #[.slice ah aj ar, .int .i64 5] ae fun b3 b1 => ∃ (af : Int), b3 = .returned (.int .u32 af) ∧
 Calls Try.prog 9 #[.int .u32 b5, .int .u32 af, .int .u32 b7, .slice aa ad ab] b1 fun b2 aw => ∃ (a3 : Option Addr) (a1 : Nat) (a2 : Nat) (a5 : Int), b2 = .returned (.tuple #[.slice a3 a1 a2, .int .i64 a5]) ∧
 bif a5 != 0 then (
 R (.tuple #[.slice none 0 0, .int .i64 0]) aw) else (
 (0 : Int) ≤ (al : Int) ∧ (al : Int) ≤ (ax : Int) ∧
 Calls Try.prog 51 #[.slice a3 a1 a2, .slice (if ax = 0 then am else Option.map (fun z : Addr => z.add (0 * 1)) am) ((Int.toNat al) - 0) (ax - 0), .func (.func 52) #[] #[]] aw fun b6 ao => ∃ (a0 : Bool), b6 = .returned (.bool a0) ∧
 bif !a0 then (
 R (.tuple #[.slice none 0 0, .int .i64 0]) ao) else (
 R (.tuple #[.slice aa ad ab, .int .i64 al]) ao))))))

theorem journal_record.eq (l1a : Option Addr) (l1n : Nat) (l1c : Nat) (gen2 : Int) (seq3 : Int) (R : Value → World → Prop) (w : World) : mfunc Try.prog [(0, [0, 1, 2, 8, 36, 37], [(6, (.one .slice)), (7, (.one (.int .i64))), (38, (.one (.int .i64)))])] 37 [.slice l1a l1n l1c, .int .u32 gen2, .int .u32 seq3] R w = journal_record.M l1a l1n l1c gen2 seq3 R w := by kernel_rfl
theorem journal_record.ok (a2 : Option Addr) (a4 : Nat) (a3 : Nat) (a1 : Int) (a0 : Int) {R : Value → World → Prop} {w : World} (h : journal_record.M a2 a4 a3 a1 a0 R w) : Calls Try.prog 37 #[.slice a2 a4 a3, .int .u32 a1, .int .u32 a0] w fun e w' => ∃ v, e = .returned v ∧ R v w' :=
  mfunc_ok follows (H := [(0, [0, 1, 2, 8, 36, 37], [(6, (.one .slice)), (7, (.one (.int .i64))), (38, (.one (.int .i64)))])]) (args := [.slice a2 a4 a3, .int .u32 a1, .int .u32 a0]) (by rw [journal_record.eq]; exact h)

def journal_record.N (bd : Option Addr) (ao : Nat) (b5 : Nat) (b6 : Int) (b7 : Int) (R : Value → World → Prop) (w : World) : Prop :=
 ((ao : Int) = 0 →
 R (.tuple #[.slice none 0 0, .int .i64 0]) w) ∧
 ((ao : Int) ≠ 0 →
 ∃ a5 : Addr, bd = some a5 ∧
 (0 : Int) < (ao : Int) ∧
 ∃ (b9 : Option Addr) (bb : Nat) (ba : Nat), w.cell? (a5.add (Int.toNat 0 * 1)) = some (.slice b9 bb ba) ∧
 Calls Try.prog 38 #[.slice b9 bb ba] w fun bf aa => ∃ (am : Bool), bf = .returned (.bool am) ∧
 (am = false →
 R (.tuple #[.slice none 0 0, .int .i64 0]) aa) ∧
 (am = true →
 (0 : Int) < (ao : Int) ∧
 ∃ (ak : Option Addr) (al : Nat) (av : Nat), aa.cell? (a5.add (Int.toNat 0 * 1)) = some (.slice ak al av) ∧
 ∃ b8 : Addr, ak = some b8 ∧
 (14 : Int) < (al : Int) ∧
 ∃ (a6 : Int), aa.cell? (b8.add (Int.toNat 14 * 1)) = some (.int .u8 a6) ∧
 (-9223372036854775808 : Int) ≤ a6 ∧ a6 < 9223372036854775808 ∧
 (a6 > (ao : Int) →
 R (.tuple #[.slice none 0 0, .int .i64 0]) aa) ∧
 (a6 ≤ (ao : Int) →
 (0 : Int) ≤ (a6 : Int) ∧ (a6 : Int) ≤ (b5 : Int) ∧ 
 ∃ (I0 : Nat → List Value → World → Prop) (bg : Nat), I0 bg [.slice none 0 0, .int .i64 a6, .int .i64 0] aa ∧ ∀ (bc : Nat) (ai : World) (af : Option Addr) (ae : Nat) (ab : Nat) (an : Int) (ac : Int), I0 bc [.slice af ae ab, .int .i64 an, .int .i64 ac] ai →
 (ac < ((Int.toNat a6) : Int) →
 0 ≤ (ac : Int) ∧ (ac : Int) < ((Int.toNat a6) : Int) ∧
 ∃ (ad : Option Addr) (ag : Nat) (a8 : Nat), ai.cell? (a5.add (Int.toNat ac * 1)) = some (.slice ad ag a8) ∧
 Calls Try.prog 38 #[.slice ad ag a8] ai fun ay a9 => ∃ (a7 : Bool), ay = .returned (.bool a7) ∧
 (a7 = false →
 R (.tuple #[.slice none 0 0, .int .i64 0]) a9) ∧
 (a7 = true →
 ∃ b3 : Addr, ad = some b3 ∧
 (15 : Int) < (ag : Int) ∧
 ∃ (b2 : Int), a9.cell? (b3.add (Int.toNat 15 * 1)) = some (.int .u8 b2) ∧
 (b2 > 48 →
 R (.tuple #[.slice none 0 0, .int .i64 0]) a9) ∧
 (b2 ≤ 48 →
 (15 : Int) < (ag : Int) ∧
 ∃ (ah : Int), a9.cell? (b3.add (Int.toNat 15 * 1)) = some (.int .u8 ah) ∧
 (-9223372036854775808 : Int) ≤ ah ∧ ah < 9223372036854775808 ∧
 (-9223372036854775808 : Int) ≤ ((16 : Int) + ah) ∧ ((16 : Int) + ah) < 9223372036854775808 ∧
 (0 : Int) ≤ (((16 : Int) + ah) : Int) ∧ (((16 : Int) + ah) : Int) ≤ (a8 : Int) ∧ (16 : Int) ≤ (((16 : Int) + ah) : Int) ∧ 
 ∃ (aw : Option Addr) (ap : Nat) (ar : Nat) (ax : World), (Builtin.append_ #[23, 23] 23 #[.slice af ae ab, .slice (cutA ad a8 16 1) ((Int.toNat ((16 : Int) + ah)) - 16) (a8 - 16)]).run Try.prog a9 = .ok (.slice aw ap ar) ax ∧
 (-9223372036854775808 : Int) ≤ (ac + 1) ∧ (ac + 1) < 9223372036854775808 ∧
 ∃ be, be < bc ∧ I0 be [.slice aw ap ar, .int .i64 an, .int .i64 (ac + 1)] ax))) ∧
 (((Int.toNat a6) : Int) ≤ ac →
 Calls Try.prog 39 #[.slice ak al av, .int .i64 5] ai fun b0 az => ∃ (aj : Int), b0 = .returned (.int .u32 aj) ∧
 Calls Try.prog 9 #[.int .u32 b6, .int .u32 aj, .int .u32 b7, .slice af ae ab] az fun b1 aq => ∃ (a2 : Option Addr) (a4 : Nat) (a3 : Nat) (a1 : Int), b1 = .returned (.tuple #[.slice a2 a4 a3, .int .i64 a1]) ∧
 (a1 ≠ 0 →
 R (.tuple #[.slice none 0 0, .int .i64 0]) aq) ∧
 (a1 = 0 →
 (0 : Int) ≤ (an : Int) ∧ (an : Int) ≤ (b5 : Int) ∧ 
 Calls Try.prog 51 #[.slice a2 a4 a3, .slice bd (Int.toNat an) b5, .func (.func 52) #[] #[]] aq fun b4 au => ∃ (a0 : Bool), b4 = .returned (.bool a0) ∧
 (a0 = false →
 R (.tuple #[.slice none 0 0, .int .i64 0]) au) ∧
 (a0 = true →
 R (.tuple #[.slice af ae ab, .int .i64 an]) au))))))

theorem journal_record.up (bd : Option Addr) (bc : Nat) (bb : Nat) (ad : Int) (af : Int) {R : Value → World → Prop} {w : World} (h : journal_record.N bd bc bb ad af R w) : journal_record.M bd bc bb ad af R w := by
  unfold journal_record.M
  unfold journal_record.N at h
  refine bif_of (fun c4 => ?_) (fun c4 => ?_)
  · have h := h.1 (beq_t c4)
    exact h
  · have h := h.2 (beq_f c4)
    obtain ⟨a5, ar, h⟩ := h
    refine elim_some ar ?_
    obtain ⟨a2, h⟩ := h
    refine ⟨by decide, a2, ?_⟩
    obtain ⟨bg, bv, bs, bt, h⟩ := h
    refine ⟨bg, bv, bs, bt, ?_⟩
    refine h.mono fun c2 c0 h => ?_
    obtain ⟨b9, he, h⟩ := h
    refine ⟨b9, he, ?_⟩
    refine bif_of (fun b2 => ?_) (fun b2 => ?_)
    · have h := h.1 (not_t b2)
      exact h
    · have h := h.2 (not_f b2)
      refine elim_some ar ?_
      obtain ⟨a2, h⟩ := h
      refine ⟨by decide, a2, ?_⟩
      obtain ⟨aj, b7, b3, b0, h⟩ := h
      refine ⟨aj, b7, b3, b0, ?_⟩
      obtain ⟨c1, ai, h⟩ := h
      refine elim_some ai ?_
      obtain ⟨a2, h⟩ := h
      refine ⟨by decide, a2, ?_⟩
      obtain ⟨bi, ah, h⟩ := h
      refine ⟨bi, ah, ?_⟩
      obtain ⟨a9, a8, h⟩ := h
      try rw [w64 a9 a8]
      refine bif_of (fun b8 => ?_) (fun b8 => ?_)
      · have h := h.1 (of_decide_eq_true b8)
        exact h
      · have h := h.2 (Int.not_lt.1 (of_decide_eq_false b8))
        obtain ⟨aa, a7, h⟩ := h
        refine ⟨aa, a7, ?_⟩
        try rw [cut_zero]
        obtain ⟨I0, bu, h0, h⟩ := h
        refine ⟨I0, bu, h0, fun bw b5 az ay ao bq bo hI => ?_⟩
        have h := h bw b5 az ay ao bq bo hI
        refine bif_of (fun am => ?_) (fun am => ?_)
        · have h := h.1 (of_decide_eq_true am)
          refine elim_some ar ?_
          obtain ⟨a7, a2, h⟩ := h
          refine ⟨a7, a2, ?_⟩
          obtain ⟨au, b1, ax, aw, h⟩ := h
          refine ⟨au, b1, ax, aw, ?_⟩
          refine h.mono fun bf br h => ?_
          obtain ⟨ac, he, h⟩ := h
          refine ⟨ac, he, ?_⟩
          refine bif_of (fun ap => ?_) (fun ap => ?_)
          · have h := h.1 (not_t ap)
            exact h
          · have h := h.2 (not_f ap)
            obtain ⟨c3, ab, h⟩ := h
            refine elim_some ab ?_
            obtain ⟨a2, h⟩ := h
            refine ⟨by decide, a2, ?_⟩
            obtain ⟨bm, ag, h⟩ := h
            refine ⟨bm, ag, ?_⟩
            refine bif_of (fun av => ?_) (fun av => ?_)
            · have h := h.1 (of_decide_eq_true av)
              exact h
            · have h := h.2 (Int.not_lt.1 (of_decide_eq_false av))
              refine elim_some ab ?_
              obtain ⟨a2, h⟩ := h
              refine ⟨by decide, a2, ?_⟩
              obtain ⟨bx, al, h⟩ := h
              refine ⟨bx, al, ?_⟩
              obtain ⟨a9, a8, h⟩ := h
              try rw [w64 a9 a8]
              obtain ⟨a9, a8, h⟩ := h
              try rw [w64 a9 a8]
              obtain ⟨aa, a7, be, h⟩ := h
              refine ⟨aa, a7, by decide, be, ?_⟩
              obtain ⟨b6, ak, an, ba, hr, h⟩ := h
              refine ⟨b6, ak, an, ba, hr, ?_⟩
              obtain ⟨a9, a8, h⟩ := h
              try rw [w64 a9 a8]
              obtain ⟨bz, hk, h⟩ := h
              exact ⟨bz, hk, h⟩
        · have h := h.2 (Int.not_lt.1 (of_decide_eq_false am))
          refine h.mono fun bj bh h => ?_
          obtain ⟨ae, he, h⟩ := h
          refine ⟨ae, he, ?_⟩
          refine h.mono fun bl bk h => ?_
          obtain ⟨a1, a4, a3, a6, he, h⟩ := h
          refine ⟨a1, a4, a3, a6, he, ?_⟩
          refine bif_of (fun b4 => ?_) (fun b4 => ?_)
          · have h := h.1 (bne_t b4)
            exact h
          · have h := h.2 (bne_f b4)
            obtain ⟨aa, a7, h⟩ := h
            refine ⟨aa, a7, ?_⟩
            try rw [cut_zero]
            refine h.mono fun bp bn h => ?_
            obtain ⟨a0, he, h⟩ := h
            refine ⟨a0, he, ?_⟩
            refine bif_of (fun aq => ?_) (fun aq => ?_)
            · have h := h.1 (not_t aq)
              exact h
            · have h := h.2 (not_f aq)
              exact h

theorem journal_record.go (a2 : Option Addr) (a4 : Nat) (a3 : Nat) (a1 : Int) (a0 : Int) {R : Value → World → Prop} {w : World} (h : journal_record.N a2 a4 a3 a1 a0 R w) : Calls Try.prog 37 #[.slice a2 a4 a3, .int .u32 a1, .int .u32 a0] w fun e w' => ∃ v, e = .returned v ∧ R v w' := journal_record.ok a2 a4 a3 a1 a0 (journal_record.up a2 a4 a3 a1 a0 h)
/-- journal.Scan -/
def journal_Scan.M (az : Option Addr) (aq : Nat) (b3 : Nat) (ao : Int) (R : Value → World → Prop) (w : World) : Prop :=
 ∃ (I0 : Nat → List Value → World → Prop) (m5 : Nat), I0 m5 [.slice none 0 0, .int .i64 0] w ∧ ∀ (m6 : Nat) (b0 : World) (a3 : Option Addr) (a1 : Nat) (a4 : Nat) (a2 : Int), I0 m6 [.slice a3 a1 a4, .int .i64 a2] b0 →
 (0 : Int) ≤ (a2 : Int) ∧ (a2 : Int) ≤ (aq : Int) ∧
 Calls Try.prog 37 #[.slice (if b3 = Int.toNat a2 then az else Option.map (fun z : Addr => z.add ((Int.toNat a2) * 1)) az) (aq - (Int.toNat a2)) (b3 - (Int.toNat a2)), .int .u32 ao, .int .u32 (IntKind.u32.wrap (a1 : Int))] b0 fun ar ah => ∃ (a8 : Option Addr) (a6 : Nat) (a7 : Nat) (a5 : Int), ar = .returned (.tuple #[.slice a8 a6 a7, .int .i64 a5]) ∧
 bif a5 == 0 then (
 ∃ (I2 : Nat → List Value → World → Prop) (b6 : Nat), I2 b6 [.int .u32 0, .int .i64 0] ah ∧ ∀ (ap : Nat) (ad : World) (a0 : Int) (ag : Int), I2 ap [.int .u32 a0, .int .i64 ag] ad →
 bif decide (ag < (aq : Int)) then (
 az.elim False fun b7 =>
 0 ≤ (ag : Int) ∧ (ag : Int) < (aq : Int) ∧
 ∃ (ab : Option Addr) (aa : Nat) (ac : Nat), ad.cell? (b7.add (Int.toNat ag * 1)) = some (.slice ab aa ac) ∧
 Calls Try.prog 38 #[.slice ab aa ac] ad fun au ak => ∃ (ae : Bool), au = .returned (.bool ae) ∧
 bif ae then (
 Calls Try.prog 39 #[.slice ab aa ac, .int .i64 1] ak fun ax an => ∃ (af : Int), ax = .returned (.int .u32 af) ∧
 bif af == ao then (
 Calls Try.prog 39 #[.slice ab aa ac, .int .i64 5] an fun av aw => ∃ (a9 : Int), av = .returned (.int .u32 a9) ∧
 ∃ b4, b4 < ap ∧ I2 b4 [.int .u32 (if (a9 : Int) > a0 then a9 else a0), .int .i64 (IntKind.i64.wrap (ag + 1))] aw) else (
 ∃ b2, b2 < ap ∧ I2 b2 [.int .u32 a0, .int .i64 (IntKind.i64.wrap (ag + 1))] an)) else (
 ∃ b5, b5 < ap ∧ I2 b5 [.int .u32 a0, .int .i64 (IntKind.i64.wrap (ag + 1))] ak)) else (
 R (.tuple #[.slice a3 a1 a4, .int .i64 a2, .int .u32 a0]) ad)) else (
 thenW (ah.alloc (.cells #[.slice a8 a6 a7] 23)) fun ay =>
 ∃ (am : Option Addr) (al : Nat) (ai : Nat) (aj : World), (Builtin.append_ #[25, 25] 25 #[.slice a3 a1 a4, .slice (some (blk ah.heap.size)) 1 1]).run Try.prog ay = .ok (.slice am al ai) aj ∧
 ∃ b1, b1 < m6 ∧ I0 b1 [.slice am al ai, .int .i64 (IntKind.i64.wrap (a2 + a5))] aj)

theorem journal_Scan.eq (l1a : Option Addr) (l1n : Nat) (l1c : Nat) (gen2 : Int) (R : Value → World → Prop) (w : World) : mfunc Try.prog [(0, [0, 1, 6], [(4, (.one .slice)), (5, (.one (.int .i64)))]), (2, [1, 4, 5, 32, 33], [(6, (.one (.int .u32))), (34, (.one (.int .i64)))])] 16 [.slice l1a l1n l1c, .int .u32 gen2] R w = journal_Scan.M l1a l1n l1c gen2 R w := by kernel_rfl
theorem journal_Scan.ok (a1 : Option Addr) (a2 : Nat) (a3 : Nat) (a0 : Int) {R : Value → World → Prop} {w : World} (h : journal_Scan.M a1 a2 a3 a0 R w) : Calls Try.prog 16 #[.slice a1 a2 a3, .int .u32 a0] w fun e w' => ∃ v, e = .returned v ∧ R v w' :=
  mfunc_ok follows (H := [(0, [0, 1, 6], [(4, (.one .slice)), (5, (.one (.int .i64)))]), (2, [1, 4, 5, 32, 33], [(6, (.one (.int .u32))), (34, (.one (.int .i64)))])]) (args := [.slice a1 a2 a3, .int .u32 a0]) (by rw [journal_Scan.eq]; exact h)

def journal_Scan.N (b7 : Option Addr) (ap : Nat) (b4 : Nat) (aj : Int) (R : Value → World → Prop) (w : World) : Prop :=
 ∃ (I0 : Nat → List Value → World → Prop) (m5 : Nat), I0 m5 [.slice none 0 0, .int .i64 0] w ∧ ∀ (m6 : Nat) (b0 : World) (a4 : Option Addr) (a1 : Nat) (a5 : Nat) (a3 : Int), I0 m6 [.slice a4 a1 a5, .int .i64 a3] b0 →
 (0 : Int) ≤ (a3 : Int) ∧ (a3 : Int) ≤ (ap : Int) ∧ 
 Calls Try.prog 37 #[.slice (cutA b7 b4 (Int.toNat a3) 1) (ap - (Int.toNat a3)) (b4 - (Int.toNat a3)), .int .u32 aj, .int .u32 (IntKind.u32.wrap (a1 : Int))] b0 fun aw ai => ∃ (a8 : Option Addr) (a6 : Nat) (a7 : Nat) (a2 : Int), aw = .returned (.tuple #[.slice a8 a6 a7, .int .i64 a2]) ∧
 (a2 = 0 →
 ∃ (I2 : Nat → List Value → World → Prop) (b8 : Nat), I2 b8 [.int .u32 0, .int .i64 0] ai ∧ ∀ (au : Nat) (ag : World) (a0 : Int) (a9 : Int), I2 au [.int .u32 a0, .int .i64 a9] ag →
 (a9 < (ap : Int) →
 ∃ b2 : Addr, b7 = some b2 ∧
 0 ≤ (a9 : Int) ∧ (a9 : Int) < (ap : Int) ∧
 ∃ (ad : Option Addr) (ah : Nat) (af : Nat), ag.cell? (b2.add (Int.toNat a9 * 1)) = some (.slice ad ah af) ∧
 Calls Try.prog 38 #[.slice ad ah af] ag fun ay am => ∃ (ac : Bool), ay = .returned (.bool ac) ∧
 (ac = true →
 Calls Try.prog 39 #[.slice ad ah af, .int .i64 1] am fun av ak => ∃ (aa : Int), av = .returned (.int .u32 aa) ∧
 (aa = aj →
 Calls Try.prog 39 #[.slice ad ah af, .int .i64 5] ak fun az ax => ∃ (ab : Int), az = .returned (.int .u32 ab) ∧
 (-9223372036854775808 : Int) ≤ (a9 + 1) ∧ (a9 + 1) < 9223372036854775808 ∧
 ∃ b5, b5 < au ∧ I2 b5 [.int .u32 (if (ab : Int) > a0 then ab else a0), .int .i64 (a9 + 1)] ax) ∧
 (aa ≠ aj →
 (-9223372036854775808 : Int) ≤ (a9 + 1) ∧ (a9 + 1) < 9223372036854775808 ∧
 ∃ b1, b1 < au ∧ I2 b1 [.int .u32 a0, .int .i64 (a9 + 1)] ak)) ∧
 (ac = false →
 (-9223372036854775808 : Int) ≤ (a9 + 1) ∧ (a9 + 1) < 9223372036854775808 ∧
 ∃ b6, b6 < au ∧ I2 b6 [.int .u32 a0, .int .i64 (a9 + 1)] am)) ∧
 ((ap : Int) ≤ a9 →
 R (.tuple #[.slice a4 a1 a5, .int .i64 a3, .int .u32 a0]) ag)) ∧
 (a2 ≠ 0 →
 ∀ (ae : World) (ar : Nat), Ext no ai ae → Blk ae ar 23 [.slice a8 a6 a7] → ai.heap.size ≤ ar → ar < ae.heap.size →
 ∃ (al : Option Addr) (ao : Nat) (aq : Nat) (an : World), (Builtin.append_ #[25, 25] 25 #[.slice a4 a1 a5, .slice (some (blk ar)) 1 1]).run Try.prog ae = .ok (.slice al ao aq) an ∧
 (-9223372036854775808 : Int) ≤ (a3 + a2) ∧ (a3 + a2) < 9223372036854775808 ∧
 ∃ b3, b3 < m6 ∧ I0 b3 [.slice al ao aq, .int .i64 (a3 + a2)] an)

theorem journal_Scan.up (b1 : Option Addr) (b0 : Nat) (az : Nat) (af : Int) {R : Value → World → Prop} {w : World} (h : journal_Scan.N b1 b0 az af R w) : journal_Scan.M b1 b0 az af R w := by
  unfold journal_Scan.M
  unfold journal_Scan.N at h
  obtain ⟨I0, m5, h0, h⟩ := h
  refine ⟨I0, m5, h0, fun m6 b5 a0 a1 a2 ac hI => ?_⟩
  have h := h m6 b5 a0 a1 a2 ac hI
  obtain ⟨b2, al, h⟩ := h
  refine ⟨b2, al, ?_⟩
  refine h.mono fun b8 a9 h => ?_
  obtain ⟨a5, a3, a4, a7, he, h⟩ := h
  refine ⟨a5, a3, a4, a7, he, ?_⟩
  refine bif_of (fun ag => ?_) (fun ag => ?_)
  · have h := h.1 (beq_t ag)
    obtain ⟨I2, b6, h0, h⟩ := h
    refine ⟨I2, b6, h0, fun bd av a6 be hI => ?_⟩
    have h := h bd av a6 be hI
    refine bif_of (fun ax => ?_) (fun ax => ?_)
    · have h := h.1 (of_decide_eq_true ax)
      obtain ⟨bj, ao, h⟩ := h
      refine elim_some ao ?_
      obtain ⟨al, bb, h⟩ := h
      refine ⟨al, bb, ?_⟩
      obtain ⟨ah, aw, au, an, h⟩ := h
      refine ⟨ah, aw, au, an, ?_⟩
      refine h.mono fun bc ba h => ?_
      obtain ⟨ae, he, h⟩ := h
      refine ⟨ae, he, ?_⟩
      refine bif_of (fun aj => ?_) (fun aj => ?_)
      · have h := h.1 aj
        refine h.mono fun b4 b3 h => ?_
        obtain ⟨ab, he, h⟩ := h
        refine ⟨ab, he, ?_⟩
        refine bif_of (fun ak => ?_) (fun ak => ?_)
        · have h := h.1 (beq_t ak)
          refine h.mono fun bi b9 h => ?_
          obtain ⟨ad, he, h⟩ := h
          refine ⟨ad, he, ?_⟩
          obtain ⟨aa, a8, h⟩ := h
          try rw [w64 aa a8]
          obtain ⟨bg, hk, h⟩ := h
          exact ⟨bg, hk, h⟩
        · have h := h.2 (beq_f ak)
          obtain ⟨aa, a8, h⟩ := h
          try rw [w64 aa a8]
          obtain ⟨b7, hk, h⟩ := h
          exact ⟨b7, hk, h⟩
      · have h := h.2 aj
        obtain ⟨aa, a8, h⟩ := h
        try rw [w64 aa a8]
        obtain ⟨bh, hk, h⟩ := h
        exact ⟨bh, hk, h⟩
    · have h := h.2 (Int.not_lt.1 (of_decide_eq_false ax))
      exact h
  · have h := h.2 (beq_f ag)
    refine thenW_in fun ai ap => ?_
    have h := h ai a9.heap.size ((Ext.refl no a9).x_alloc ap) (Blk.of_new ap) ((Ext.refl no a9)).size (size_lt_alloc ap)
    obtain ⟨am, ar, ay, aq, hr, h⟩ := h
    refine ⟨am, ar, ay, aq, hr, ?_⟩
    obtain ⟨aa, a8, h⟩ := h
    try rw [w64 aa a8]
    obtain ⟨bf, hk, h⟩ := h
    exact ⟨bf, hk, h⟩

theorem journal_Scan.go (a1 : Option Addr) (a2 : Nat) (a3 : Nat) (a0 : Int) {R : Value → World → Prop} {w : World} (h : journal_Scan.N a1 a2 a3 a0 R w) : Calls Try.prog 16 #[.slice a1 a2 a3, .int .u32 a0] w fun e w' => ∃ v, e = .returned v ∧ R v w' := journal_Scan.ok a1 a2 a3 a0 (journal_Scan.up a1 a2 a3 a0 h)
end Go.Proofs.Ytgcjipbahfpopaa

/- Journal: which record stands, plainly; the small functions of a scan. -/
set_option linter.unusedVariables false
set_option linter.unusedSimpArgs false
set_option maxRecDepth 20000
set_option maxHeartbeats 2000000
namespace Go.Proofs.Ytgcjipbahfpopaa
open Go Go.Mx Go.Proofs
open W (OwnB GivesW)
def byteN (s : List UInt8) (i : Nat) : Nat := ((s[i]?).getD 0).toNat
def numB (s : List UInt8) (i : Nat) : Nat := byteN s i * 16777216 + byteN s (i + 1) * 65536 + byteN s (i + 2) * 256 + byteN s (i + 3)
def bodyS (s : List UInt8) : List UInt8 := (s.drop 16).take (byteN s 15)
def cntK (L : List (List UInt8)) : Nat := byteN (L.headD []) 14
def bodyK (L : List (List UInt8)) : List UInt8 := (L.take (cntK L)).flatMap bodyS
/-- a record stands where these sectors begin. -/
def OKS (L : List (List UInt8)) (gen seq : Nat) : Prop :=
  L ≠ [] ∧ (L.headD []).length = 64 ∧ cntK L ≤ L.length ∧ (∀ s ∈ L.take (cntK L), s.length = 64 ∧ byteN s 15 ≤ 48) ∧ frameK gen (numB (L.headD []) 5) seq (bodyK L) = (L.take (cntK L), 0)
instance (L : List (List UInt8)) (gen seq : Nat) : Decidable (OKS L gen seq) := by unfold OKS; infer_instance
def standK (L : List (List UInt8)) (gen seq : Nat) : List UInt8 × Nat := if OKS L gen seq then (bodyK L, cntK L) else ([], 0)
theorem byteN_lt (s : List UInt8) (i : Nat) : byteN s i < 256 := UInt8.toNat_lt _
theorem numB_lt (s : List UInt8) (i : Nat) : numB s i < 4294967296 := by
  have h0 := byteN_lt s i
  have h1 := byteN_lt s (i + 1)
  have h2 := byteN_lt s (i + 2)
  have h3 := byteN_lt s (i + 3)
  unfold numB; omega
theorem cntK_lt (L : List (List UInt8)) : cntK L < 256 := byteN_lt _ _
theorem frameK_zero {gen round seq : Nat} {b : List UInt8} {f : List (List UInt8)} (h : frameK gen round seq b = (f, 0)) : b.length ≤ 4000 ∧ gen ≠ 0 ∧ round ≠ 0 ∧ f = frameL gen round seq b ∧ f ≠ [] := by
  unfold frameK at h
  split at h
  · cases h
  · rename_i h4
    split at h
    · cases h
    · rename_i hz
      injection h with h1 h2
      refine ⟨by omega, fun e => hz (.inl e), fun e => hz (.inr e), h1.symm, ?_⟩
      rw [← h1]
      intro e
      have := congrArg List.length e
      unfold frameL at this
      rw [List.length_map, List.length_range] at this
      have h0 : partsN b.length = 0 := this
      unfold partsN at h0
      rw [if_neg h4] at h0
      split at h0
      · cases h0
      · omega
theorem sec_mark {gen round seq : Nat} {b : List UInt8} {s : List UInt8} (h : s ∈ frameL gen round seq b) : byteN s 0 = 197 ∧ s.length = 64 := by
  unfold frameL at h
  obtain ⟨i, hi, rfl⟩ := List.mem_map.1 h
  exact ⟨rfl, secL_len _ _ _ _ _ (partL_le _ _)⟩
section
variable {L : List (List UInt8)} {gen seq : Nat}
theorem OKS.cnt (h : OKS L gen seq) : cntK L ≠ 0 := fun e => by
  obtain ⟨_, _, _, _, hf⟩ := h
  have := (frameK_zero hf).2.2.2.2
  rw [e] at this
  exact this rfl
theorem OKS.round (h : OKS L gen seq) : numB (L.headD []) 5 ≠ 0 := (frameK_zero h.2.2.2.2).2.2.1
theorem OKS.mark (h : OKS L gen seq) : ∀ s ∈ L.take (cntK L), byteN s 0 = 197 ∧ s.length = 64 := fun s hs => by
  have hf := h.2.2.2.2
  have := (frameK_zero hf).2.2.2.1
  rw [this] at hs
  exact sec_mark hs
theorem OKS.head (h : OKS L gen seq) : L.headD [] ∈ L.take (cntK L) := by
  have hc := h.cnt
  obtain ⟨h0, _⟩ := h
  cases L with
  | nil => exact absurd rfl h0
  | cons x r =>
    obtain ⟨k, hk⟩ := Nat.exists_eq_succ_of_ne_zero hc
    rw [hk]
    exact List.mem_cons_self
theorem standK_no (h : ¬ OKS L gen seq) : standK L gen seq = ([], 0) := if_neg h
theorem standK_yes (h : OKS L gen seq) : standK L gen seq = (bodyK L, cntK L) := if_pos h
theorem standK_le (L : List (List UInt8)) (gen seq : Nat) : (standK L gen seq).2 ≤ L.length := by
  by_cases h : OKS L gen seq
  · rw [standK_yes h]; exact h.2.2.1
  · rw [standK_no h]; exact Nat.zero_le _
theorem bodyS_le (s : List UInt8) : (bodyS s).length ≤ 255 := by
  unfold bodyS
  rw [List.length_take]
  have := byteN_lt s 15
  omega
theorem flat_le : ∀ L : List (List UInt8), (L.flatMap bodyS).length ≤ 255 * L.length
  | [] => Nat.le_refl _
  | x :: r => by
    have := bodyS_le x
    have := flat_le r
    rw [List.flatMap_cons, List.length_append, List.length_cons]
    omega
end
/-- a list of bytes' rows, where they lie. -/
structure BsAt (w : World) (a : Option Addr) (c : Nat) (l : List BS) : Prop where
  row : RowAt w a (l.map BS.v)
  oks : ∀ x ∈ l, RowAt w x.a (bytesV x.bs) ∧ x.bs.length ≤ x.c
  le : l.length ≤ c
section
variable {w w' w1 : World} {o o' o1 : Own} {q g n N : Nat} {K : Nat → Prop} {b s : List UInt8} {a : Option Addr} {c : Nat} {l : List BS}
theorem BsAt.no (h : BsAt w a c l) (X : Ext no w w') : BsAt w' a c l := ⟨h.row.no X, fun x hx => ⟨(h.oks x hx).1.no X, (h.oks x hx).2⟩, h.le⟩
theorem BsRow.at (h : BsRow w o a c l) : BsAt w a c l := ⟨h.row.1, fun x hx => ⟨(h.oks x hx).1.1, (h.oks x hx).2⟩, h.le⟩
theorem BsAt.cut (h : BsAt w a c l) (k : Nat) : BsAt w (cutA a c k 1) (c - k) (l.drop k) :=
  ⟨by have := h.row.cut k c (by rw [List.length_map]; exact h.le); rwa [← List.map_drop] at this, fun x hx => h.oks x (List.mem_of_mem_drop hx), by rw [List.length_drop]; have := h.le; omega⟩
theorem BsAt.take (h : BsAt w a c l) (k : Nat) : BsAt w a c (l.take k) :=
  ⟨by have := h.row.take k; rwa [← List.map_take] at this, fun x hx => h.oks x (List.mem_of_mem_take hx), by rw [List.length_take]; have := h.le; omega⟩
theorem BsAt.cell (h : BsAt w a c l) {i : Nat} {x : BS} (hi : l[i]? = some x) : ∃ ad, a = some ad ∧ w.cell? (ad.add (i * 1)) = some (.slice x.a x.bs.length x.c) := by
  obtain ⟨ad, ha, hc⟩ := h.row i x.v (by rw [List.getElem?_map, hi]; rfl)
  exact ⟨ad, ha, by rw [Nat.mul_one]; exact hc⟩
theorem byte_cell (h : RowAt w a (bytesV s)) {i : Nat} (hi : i < s.length) : ∃ ad, a = some ad ∧ w.cell? (ad.add (i * 1)) = some (.int .u8 (byteN s i)) := by
  obtain ⟨ad, ha, hc⟩ := h i (u8V s[i]) (by unfold bytesV; rw [List.getElem?_map, List.getElem?_eq_getElem hi]; rfl)
  refine ⟨ad, ha, ?_⟩
  rw [Nat.mul_one, hc]
  unfold byteN
  rw [List.getElem?_eq_getElem hi]; rfl
theorem sIs_spec (h : RowAt w a (bytesV s)) :
    Calls Try.prog 38 #[.slice a s.length c] w (Ret (.bool (decide (s.length = 64 ∧ byteN s 0 = 197))) fun w' => w' = w) := by
  refine journal_sector_is.run _ _ _ ?_
  unfold journal_sector_is.N
  refine ⟨fun h64 => ?_, fun h64 => ⟨by rw [decide_eq_false (by omega)], rfl⟩⟩
  obtain ⟨ad, rfl, hc⟩ := byte_cell h (i := 0) (by omega)
  refine ⟨ad, rfl, by omega, _, hc, ?_, rfl⟩
  congr 1
  rw [Bool.eq_iff_iff]
  simp
  omega
theorem or_step (n x : Nat) (hn : n < 16777216) (hx : x < 256) : IntKind.u32.wrap ((BitVec.ofInt (IntKind.bits .u32) (IntKind.u32.wrap ((n : Int) * 256)) ||| BitVec.ofInt (IntKind.bits .u32) (IntKind.u32.wrap (x : Int))).toNat) = ((n * 256 + x : Nat) : Int) := by
  rw [show IntKind.u32.wrap ((n : Int) * 256) = ((n * 256 : Nat) : Int) by rw [IntKind.wrap_u32]; omega, show IntKind.u32.wrap (x : Int) = ((x : Nat) : Int) by rw [IntKind.wrap_u32]; omega]
  have h1 : (BitVec.ofInt (IntKind.bits .u32) ((n * 256 : Nat) : Int)).toNat = n * 256 := by
    show (BitVec.ofInt 32 ((n * 256 : Nat) : Int)).toNat = _
    rw [BitVec.ofInt_natCast, BitVec.toNat_ofNat]; omega
  have h2 : (BitVec.ofInt (IntKind.bits .u32) ((x : Nat) : Int)).toNat = x := by
    show (BitVec.ofInt 32 ((x : Nat) : Int)).toNat = _
    rw [BitVec.ofInt_natCast, BitVec.toNat_ofNat]; omega
  rw [BitVec.toNat_or, h1, h2]
  have h3 : n * 256 ||| x = n * 256 + x := by
    have := Nat.two_pow_add_eq_or_of_lt (i := 8) (b := x) (by omega) n
    rw [show (2 : Nat) ^ 8 * n = n * 256 by omega] at this
    exact this.symm
  rw [h3, IntKind.wrap_u32]; omega
/-- a number's bytes so far. -/
def numP (s : List UInt8) (i : Nat) : Nat → Nat
  | 0 => 0
  | k + 1 => numP s i k * 256 + byteN s (i + k)
theorem numP_four (s : List UInt8) (i : Nat) : numP s i 4 = numB s i := by
  simp only [numP, numB, Nat.add_zero]
  omega
theorem numP_lt (s : List UInt8) (i : Nat) : ∀ k, k ≤ 3 → numP s i k < 16777216 := fun k hk => by
  have h0 := byteN_lt s (i + 0)
  have h1 := byteN_lt s (i + 1)
  have h2 := byteN_lt s (i + 2)
  match k, hk with
  | 0, _ => simp only [numP]; omega
  | 1, _ => simp only [numP]; omega
  | 2, _ => simp only [numP]; omega
  | 3, _ => simp only [numP]; omega
theorem at_spec (h : RowAt w a (bytesV s)) (hc : s.length ≤ c) {i : Nat} (hi : i + 4 ≤ s.length) (hs : s.length < 1000000) :
    Calls Try.prog 39 #[.slice a s.length c, .int .i64 i] w (Ret (.int .u32 (numB s i)) fun w' => w' = w) := by
  refine journal_sector_at.run _ _ _ _ ?_
  unfold journal_sector_at.N
  have hcut : (Int.toNat ((i : Int) + 4)) - (Int.toNat (i : Int)) = 4 := by omega
  refine ⟨by omega, by omega, by omega, by omega, by omega, by omega, ?_⟩
  rw [hcut, Int.toNat_natCast]
  refine ⟨fun m vs w1 => ∃ t : Nat, vs = [.int .u32 (numP s i t), .int .i64 t] ∧ m + t = 4 ∧ w1 = w, 4, ⟨0, rfl, rfl, rfl⟩, ?_⟩
  rintro m w7 n t ⟨t', hi', hm, rfl⟩
  simp only [List.cons.injEq, Value.int.injEq, true_and, and_true] at hi'
  obtain ⟨rfl, rfl⟩ := hi'
  refine ⟨fun ht => ?_, fun ht => ?_⟩
  · have ht4 : t' < 4 := by omega
    have hd : RowAt w7 (cutA a c i 1) (bytesV (s.drop i)) := by
      have := h.cut i c (by rw [bytesV_length]; exact hc)
      unfold bytesV at this ⊢
      rwa [← List.map_drop] at this
    obtain ⟨ad, ha, hcell⟩ := byte_cell hd (i := t') (by rw [List.length_drop]; omega)
    have hb : byteN (s.drop i) t' = byteN s (i + t') := by unfold byteN; rw [List.getElem?_drop]
    rw [hb] at hcell
    refine ⟨ad, ha, by omega, by omega, _, by rw [Int.toNat_natCast]; exact hcell, by omega, by omega, m - 1, by omega, t' + 1, ?_, by omega, rfl⟩
    rw [or_step _ _ (numP_lt s i t' (by omega)) (byteN_lt _ _)]; rfl
  · have : t' = 4 := by omega
    subst this
    exact ⟨by rw [numP_four], rfl⟩
theorem bEq_spec {b : Option Addr} {d : Nat} {x y : List UInt8} (ha : RowAt w a (bytesV x)) (hb : RowAt w b (bytesV y)) :
    Calls Try.prog 52 #[.slice a x.length c, .slice b y.length d] w (Ret (.bool (decide (x = y))) fun w' => w' = w) := by
  refine bytes_Equal.run _ _ _ _ _ _ ?_
  unfold bytes_Equal.N
  refine ⟨_, conv_str Try.underlying23 Try.underlying5 Try.underlying9 ha, _, conv_str Try.underlying23 Try.underlying5 Try.underlying9 hb, ?_, rfl⟩
  have e : ∀ s : List UInt8, (ByteArray.mk s.toArray).toList = s := fun s => by
    simp
  congr 1
  rw [e, e, Bool.eq_iff_iff]
  simp
theorem eqFunc_spec {ba : Option Addr} {bc : Nat} {l1 l2 : List BS} (h1 : BsAt w a c l1) (h2 : BsAt w ba bc l2) (hl : l1.length < 1000000) :
    Calls Try.prog 51 #[.slice a l1.length c, .slice ba l2.length bc, .func (.func 52) #[] #[]] w (Ret (.bool (decide (l1.map BS.bs = l2.map BS.bs))) fun w' => w' = w) := by
  refine slices_EqualFunc_byte_byte_byte_byte.run _ _ _ _ _ _ _ _ _ ?_
  unfold slices_EqualFunc_byte_byte_byte_byte.N
  have leafF : l1.map BS.bs ≠ l2.map BS.bs → ∀ {w2 : World}, w2 = w → Value.bool false = .bool (decide (l1.map BS.bs = l2.map BS.bs)) ∧ w2 = w := fun h _ X => ⟨by rw [decide_eq_false h], X⟩
  refine ⟨fun h => leafF (fun e => h (by have := congrArg List.length e; simp at this; omega)) rfl, fun h => ?_⟩
  refine ⟨fun m vs w1 => ∃ t : Nat, vs = [.int .i64 t] ∧ m + t = l1.length ∧ w1 = w ∧ (l1.map BS.bs).take t = (l2.map BS.bs).take t, l1.length, ⟨0, rfl, rfl, rfl, rfl⟩, ?_⟩
  rintro m w7 i ⟨t, hi, hm, rfl, htk⟩
  simp only [List.cons.injEq, Value.int.injEq, true_and, and_true] at hi
  subst hi
  refine ⟨fun ht => ?_, fun ht => ?_⟩
  rotate_left
  · have htt : t = l1.length := by omega
    rw [List.take_of_length_le (by simp; omega), List.take_of_length_le (by simp; omega)] at htk
    exact ⟨by rw [decide_eq_true htk], rfl⟩
  have ht1 : t < l1.length := by omega
  have ht2 : t < l2.length := by omega
  have g1 : l1[t]? = some l1[t] := List.getElem?_eq_getElem ht1
  have g2 : l2[t]? = some l2[t] := List.getElem?_eq_getElem ht2
  obtain ⟨x1, x2⟩ := h1.oks _ (List.getElem_mem ht1)
  obtain ⟨y1, y2⟩ := h2.oks _ (List.getElem_mem ht2)
  have n1 : (l1.map BS.bs)[t]? = some (l1[t]).bs := by rw [List.getElem?_map, g1]; rfl
  have n2 : (l2.map BS.bs)[t]? = some (l2[t]).bs := by rw [List.getElem?_map, g2]; rfl
  generalize l1[t] = u at *
  generalize l2[t] = v at *
  obtain ⟨ad, rfl, c1⟩ := h1.cell g1
  obtain ⟨bd, rfl, c2⟩ := h2.cell g2
  refine ⟨ad, rfl, by omega, by omega, u.a, u.bs.length, u.c, by rw [Int.toNat_natCast]; exact c1, bd, rfl, by omega, by omega, v.a, v.bs.length, v.c, by rw [Int.toNat_natCast]; exact c2, by kernel_rfl, ?_⟩
  refine (by exact (bEq_spec (c := u.c) (d := v.c) x1 y1).mono fun z w18 ⟨he, hw⟩ => ⟨_, he, fun hs => leafF (fun e => of_decide_eq_false hs (by rw [e, n2] at n1; injection n1 with n1; exact n1.symm)) hw, fun hs => ⟨by omega, by omega, m - 1, by omega, t + 1, rfl, by omega, hw, by rw [List.take_add_one, List.take_add_one, htk, n1, n2, of_decide_eq_true hs]⟩⟩)
end
end Go.Proofs.Ytgcjipbahfpopaa

/- Journal: the record that stands (both). -/
set_option linter.unusedVariables false
set_option linter.unusedSimpArgs false
set_option maxRecDepth 20000
set_option maxHeartbeats 2000000
namespace Go.Proofs.Ytgcjipbahfpopaa
open Go Go.Mx Go.Proofs
open W (OwnB GivesW)
section
variable {w w' w1 : World} {o o' o1 : Own} {q g n N : Nat} {K : Nat → Prop} {b s : List UInt8} {a : Option Addr} {c : Nat} {l : List BS}
theorem body_row (h : RowAt w a (bytesV s)) (hc : s.length ≤ c) : RowAt w (cutA a c 16 1) (bytesV (bodyS s)) := by
  have := (h.cut 16 c (by rw [bytesV_length]; exact hc)).take (byteN s 15)
  unfold bodyS
  unfold bytesV at this ⊢
  rwa [← List.map_drop, ← List.map_take] at this
theorem body_len (h : s.length = 64) (h15 : byteN s 15 ≤ 48) : (bodyS s).length = byteN s 15 := by
  unfold bodyS
  rw [List.length_take, List.length_drop]; omega
theorem get_map_bs {l : List BS} {i : Nat} {x : BS} (h : l[i]? = some x) : (l.map BS.bs)[i]? = some x.bs := by rw [List.getElem?_map, h]; rfl
theorem mem_take_of {α : Type} {L : List α} {i k : Nat} {x : α} (hi : i < k) (h : L[i]? = some x) : x ∈ L.take k := by
  have : (L.take k)[i]? = some x := by rw [List.getElem?_take, if_pos hi]; exact h
  exact List.mem_of_getElem? this
/-- what is gathered of the first sectors. -/
structure Gath (w : World) (L : List (List UInt8)) (t : Nat) (w1 : World) (ba : Option Addr) (bc : Nat) (b : List UInt8) : Prop where
  own : OwnB w.heap.size w1 ba bc b
  ext : Ext no w w1
  ok : ∀ s ∈ L.take t, s.length = 64 ∧ byteN s 15 ≤ 48
  is : b = (L.take t).flatMap bodyS
theorem gath_len (h : Gath w (l.map BS.bs) n w1 a c b) (hn : n ≤ 255) : b.length ≤ 100000 := by
  rw [h.is]
  have := flat_le ((l.map BS.bs).take n)
  rw [List.length_take] at this
  omega
theorem record_spec (h : BsAt w a c l) (hl : l.length ≤ 100000) {gen seq : Nat} :
    Calls Try.prog 37 #[.slice a l.length c, .int .u32 gen, .int .u32 seq] w (fun z w' => ∃ ba bc, z = .returned (.tuple #[.slice ba (standK (l.map BS.bs) gen seq).1.length bc, .int .i64 (standK (l.map BS.bs) gen seq).2]) ∧ OwnB w.heap.size w' ba bc (standK (l.map BS.bs) gen seq).1 ∧ Ext no w w') := by
  refine (journal_record.go _ _ _ _ _ (R := fun z w' => ∃ ba bc, z = (.tuple #[.slice ba (standK (l.map BS.bs) gen seq).1.length bc, .int .i64 (standK (l.map BS.bs) gen seq).2]) ∧ OwnB w.heap.size w' ba bc (standK (l.map BS.bs) gen seq).1 ∧ Ext no w w') ?_).mono fun z w' ⟨u, he, ba, bc, hu, hw⟩ => ⟨ba, bc, by rw [he, hu], hw⟩
  unfold journal_record.N
  generalize hL : l.map BS.bs = L at *
  have hLl : L.length = l.length := by rw [← hL, List.length_map]
  have leaf : ¬ OKS L gen seq → ∀ {w2 : World}, Ext no w w2 → ∃ ba bc, Value.tuple #[.slice none 0 0, .int .i64 0] = (.tuple #[.slice ba (standK L gen seq).1.length bc, .int .i64 (standK L gen seq).2]) ∧ OwnB w.heap.size w2 ba bc (standK L gen seq).1 ∧ Ext no w w2 := fun hn w2 X => by
    rw [standK_no hn]; exact ⟨none, 0, rfl, W.OwnB.nil _ _, X⟩
  refine ⟨fun h0 => leaf (fun k => k.1 (List.eq_nil_of_length_eq_zero (by omega))) (Ext.refl _ _), fun h0 => ?_⟩
  have hi0 : 0 < l.length := by omega
  have g0 : l[0]? = some l[0] := List.getElem?_eq_getElem hi0
  have hm0 := List.getElem_mem hi0
  generalize l[0] = x0 at *
  have hhead : L.headD [] = x0.bs := by
    have := get_map_bs g0
    rw [hL] at this
    cases L with
    | nil => simp at this
    | cons y r => simp at this; exact this
  obtain ⟨ad, rfl, c0⟩ := h.cell g0
  obtain ⟨r0, e0⟩ := h.oks x0 hm0
  refine ⟨ad, rfl, by omega, x0.a, x0.bs.length, x0.c, c0, ?_⟩
  refine (sIs_spec (c := x0.c) r0).mono fun u w10 ⟨he, hw⟩ => ⟨_, he, fun hs => ?_, fun hs => ?_⟩
  · subst hw
    exact leaf (fun k => of_decide_eq_false hs (by rw [← hhead]; exact ⟨(k.mark _ k.head).2, (k.mark _ k.head).1⟩)) (Ext.refl _ _)
  subst hw
  obtain ⟨h64, hmk⟩ := of_decide_eq_true hs
  obtain ⟨xd, hxd, c14⟩ := byte_cell r0 (i := 14) (by omega)
  have hcnt : byteN x0.bs 14 = cntK L := by unfold cntK; rw [hhead]
  rw [hcnt] at c14
  have hc255 := cntK_lt L
  refine ⟨by omega, x0.a, x0.bs.length, x0.c, c0, xd, hxd, by omega, _, c14, by omega, by omega, fun hgt => leaf (fun k => by have := k.2.2.1; omega) (Ext.refl _ _), fun hle => ⟨by omega, by have := h.le; omega, ?_⟩⟩
  rw [Int.toNat_natCast]
  refine ⟨fun m vs w1 => ∃ (t : Nat) (ba : Option Addr) (bc : Nat) (b : List UInt8), vs = [.slice ba b.length bc, .int .i64 (cntK L : Nat), .int .i64 t] ∧ m + t = cntK L ∧ Gath w10 L t w1 ba bc b, cntK L, ⟨0, none, 0, [], rfl, rfl, ⟨W.OwnB.nil _ _, Ext.refl _ _, fun s hs => by simp at hs, rfl⟩⟩, ?_⟩
  rintro m w23 ba bn bc n19 i ⟨t, ba', bc', b, hi, hm, G⟩
  simp only [List.cons.injEq, Value.slice.injEq, Value.int.injEq, true_and, and_true] at hi
  obtain ⟨⟨rfl, rfl, rfl⟩, rfl, rfl⟩ := hi
  have h23 := h.no G.ext
  refine ⟨fun ht => ?_, fun ht => ?_⟩
  · have htl : t < l.length := by omega
    have gt : l[t]? = some l[t] := List.getElem?_eq_getElem htl
    have hmt := List.getElem_mem htl
    generalize l[t] = x at *
    have gL : L[t]? = some x.bs := by rw [← hL]; exact get_map_bs gt
    have hin : x.bs ∈ L.take (cntK L) := mem_take_of (by omega) gL
    obtain ⟨_, e, cx⟩ := h23.cell gt
    cases e
    obtain ⟨rx, ex⟩ := h23.oks x hmt
    refine ⟨by omega, by omega, x.a, x.bs.length, x.c, by rw [Int.toNat_natCast]; exact cx, ?_⟩
    refine (sIs_spec (c := x.c) rx).mono fun u w29 ⟨he, hw⟩ => ⟨_, he, fun hs => ?_, fun hs => ?_⟩
    · subst hw
      exact leaf (fun k => of_decide_eq_false hs ⟨(k.mark _ hin).2, (k.mark _ hin).1⟩) G.ext
    subst hw
    obtain ⟨hx64, hxm⟩ := of_decide_eq_true hs
    obtain ⟨yd, hyd, c15⟩ := byte_cell rx (i := 15) (by omega)
    refine ⟨yd, hyd, by omega, _, c15, fun hgt => leaf (fun k => by have := (k.2.2.2.1 _ hin).2; omega) G.ext, fun hle15 => ⟨by omega, _, c15, by omega, by omega, by omega, by omega, by omega, by omega, by omega, ?_⟩⟩
    have hbl := body_len hx64 (by omega)
    have hcut : Int.toNat ((16 : Int) + (byteN x.bs 15 : Int)) - 16 = (bodyS x.bs).length := by rw [hbl]; omega
    rw [hcut]
    have hgl := gath_len (l := l) (by rw [hL]; exact G) (show t ≤ 255 by omega)
    obtain ⟨a', c', w38, hr, O38, X38, _⟩ := appB (xc := x.c - 16) G.own G.ext (Nat.le_refl _) G.ext.size (Ext.refl no w29) (body_row rx ex) (by omega)
    refine ⟨a', _, c', w38, hr, by omega, by omega, m - 1, by omega, t + 1, a', c', _, rfl, by omega, ⟨O38, X38, fun s hs => ?_, ?_⟩⟩
    · rw [List.take_add_one, gL] at hs
      rcases List.mem_append.1 hs with hs | hs
      · exact G.ok s hs
      · simp at hs; subst hs; exact ⟨hx64, by omega⟩
    · rw [List.take_add_one, gL, List.flatMap_append, ← G.is]; simp
  · have htt : t = cntK L := by omega
    subst htt
    have hbK : b = bodyK L := G.is
    have hgl := gath_len (l := l) (by rw [hL]; exact G) (show cntK L ≤ 255 by omega)
    have r0' := r0.no G.ext
    refine (at_spec (i := 5) r0' e0 (by omega) (by omega)).mono fun u w42 ⟨he, hw⟩ => ⟨_, he, ?_⟩
    subst hw
    have hnum : numB x0.bs 5 = numB (L.headD []) 5 := by rw [hhead]
    rw [hnum]
    refine (fFrame_spec (o := fun _ => none) (fun b j _ h => by cases h) G.own.row G.own.le (by omega) gen (numB (L.headD []) 5) seq).mono fun u w46 ⟨o46, fa, fc, f, he, s46, hfm, hf⟩ => ⟨_, _, _, _, he, fun hne => leaf (fun k => hne (by rw [hbK]; exact congrArg Prod.snd k.2.2.2.2)) (G.ext.trans (s46.ext.mono fun b ⟨_, _, h⟩ _ => h)), fun heq => ⟨by omega, by have := h.le; omega, ?_⟩⟩
    have X46 : Ext no w42 w46 := s46.ext.mono fun b ⟨_, _, h⟩ _ => h
    rw [Int.toNat_natCast]
    have hlt : (l.take (cntK L)).length = cntK L := by rw [List.length_take]; omega
    have hfl : f.length < 1000000 := by
      have h1 := congrArg List.length hfm
      rw [List.length_map] at h1
      rw [h1]
      unfold frameK
      split
      · exact (by decide)
      · split
        · exact (by decide)
        · show (frameL _ _ _ _).length < _
          unfold frameL
          rw [List.length_map, List.length_range]
          have := partsN_le b.length
          omega
    have hq := eqFunc_spec hf.at ((h23.no X46).take (cntK L)) hfl
    rw [hlt] at hq
    refine hq.mono fun u w50 ⟨he, hw⟩ => ⟨_, he, fun hs => ?_, fun hs => ?_⟩
    · have hs' := of_decide_eq_false hs
      subst hw
      exact leaf (fun k => hs' (by
        rw [hfm, List.map_take, hL, hbK]
        exact congrArg Prod.fst k.2.2.2.2)) (G.ext.trans X46)
    · have hs' := of_decide_eq_true hs
      subst hw
      rw [hfm, List.map_take, hL] at hs'
      have hOK : OKS L gen seq := ⟨fun e => by rw [e] at hLl; simp at hLl; omega, by rw [hhead]; exact h64, by omega, G.ok, Prod.ext (by rw [← hbK]; exact hs') (by rw [← hbK]; exact heq)⟩
      rw [standK_yes hOK, ← hbK]
      exact ⟨ba, bc, rfl, W.OwnB.no G.own X46, G.ext.trans X46⟩
end
end Go.Proofs.Ytgcjipbahfpopaa

/- Journal: a scan (both). -/
set_option linter.unusedVariables false
set_option linter.unusedSimpArgs false
set_option maxRecDepth 20000
set_option maxHeartbeats 2000000
namespace Go.Proofs.Ytgcjipbahfpopaa
open Go Go.Mx Go.Proofs
open W (OwnB GivesW)
def scanG (gen : Nat) : Nat → List (List UInt8) → Nat → List (List UInt8) × Nat
  | 0, _, _ => ([], 0)
  | k + 1, L, s => if (standK L gen s).2 = 0 then ([], 0) else ((standK L gen s).1 :: (scanG gen k (L.drop (standK L gen s).2) (s + 1)).1, (standK L gen s).2 + (scanG gen k (L.drop (standK L gen s).2) (s + 1)).2)
def roundStep (gen : Nat) (r : Nat) (s : List UInt8) : Nat := if s.length = 64 ∧ byteN s 0 = 197 ∧ numB s 1 = gen then max r (numB s 5) else r
def roundOf (gen : Nat) (L : List (List UInt8)) : Nat := L.foldl (roundStep gen) 0
def scanK (L : List (List UInt8)) (gen : Nat) : (List (List UInt8) × Nat) × Nat := (scanG gen (L.length + 1) L 0, roundOf gen L)
theorem roundStep_lt {gen r : Nat} {s : List UInt8} (h : r < 4294967296) : roundStep gen r s < 4294967296 := by
  unfold roundStep
  have := numB_lt s 5
  split <;> omega
theorem roundOf_lt (gen : Nat) (L : List (List UInt8)) : roundOf gen L < 4294967296 := by
  unfold roundOf
  have : ∀ (L : List (List UInt8)) (r : Nat), r < 4294967296 → L.foldl (roundStep gen) r < 4294967296 := by
    intro L
    induction L with
    | nil => intro r h; exact h
    | cons x t ih => intro r h; exact ih _ (roundStep_lt h)
  exact this L 0 (by decide)
theorem roundOf_step {gen : Nat} {L : List (List UInt8)} {t : Nat} {s : List UInt8} (h : L[t]? = some s) : roundOf gen (L.take (t + 1)) = roundStep gen (roundOf gen (L.take t)) s := by
  unfold roundOf
  rw [List.take_add_one, h, List.foldl_append]; rfl
section
variable {w w' w1 : World} {o o' o1 : Own} {q g n N : Nat} {K : Nat → Prop} {b s : List UInt8} {a : Option Addr} {c : Nat} {l : List BS}
theorem max_int (x y : Nat) : (if ((x : Int) : Int) > (y : Int) then (x : Int) else (y : Int)) = ((max y x : Nat) : Int) := by
  split <;> omega
theorem scan_spec (ok : Tags w o) (h : BsAt w a c l) (hl : l.length ≤ 100000) (gen : Nat) :
    Calls Try.prog 16 #[.slice a l.length c, .int .u32 gen] w (fun z w' => ∃ o' ra rc, ∃ r : List BS, z = .returned (.tuple #[.slice ra r.length rc, .int .i64 (scanK (l.map BS.bs) gen).1.2, .int .u32 (scanK (l.map BS.bs) gen).2]) ∧ Step no w o w' o' ∧ r.map BS.bs = (scanK (l.map BS.bs) gen).1.1 ∧ BsRow w' o' ra rc r) := by
  refine (journal_Scan.go _ _ _ _ (R := fun z w' => ∃ o' ra rc, ∃ r : List BS, z = (.tuple #[.slice ra r.length rc, .int .i64 (scanK (l.map BS.bs) gen).1.2, .int .u32 (scanK (l.map BS.bs) gen).2]) ∧ Step no w o w' o' ∧ r.map BS.bs = (scanK (l.map BS.bs) gen).1.1 ∧ BsRow w' o' ra rc r) ?_).mono fun z w' ⟨u, he, o', ra, rc, r, hu, hw⟩ => ⟨o', ra, rc, r, by rw [he, hu], hw⟩
  unfold journal_Scan.N
  generalize hL : l.map BS.bs = L at *
  have hLl : L.length = l.length := by rw [← hL, List.length_map]
  obtain ⟨T, hT⟩ : ∃ T, scanG gen (L.length + 1) L 0 = T := ⟨_, rfl⟩
  refine ⟨fun m vs w1 => ∃ (t : Nat) (o1 : Own) (ra : Option Addr) (rc : Nat) (r : List BS), vs = [.slice ra r.length rc, .int .i64 t] ∧ t ≤ L.length ∧ L.length < m + t ∧ r.length ≤ t ∧ Step no w o w1 o1 ∧ BsL w.heap.size w1 o1 ra rc r ∧ (r.map BS.bs ++ (scanG gen m (L.drop t) r.length).1, t + (scanG gen m (L.drop t) r.length).2) = T, L.length + 1, ⟨0, o, none, 0, [], rfl, Nat.zero_le _, by omega, Nat.le_refl _, Step.refl _ ok, BsL.nil _ _ _, by rw [← hT]; simp⟩, ?_⟩
  rintro m w7 ra rn rc i ⟨t, o7, ra', rc', r, hi, ht, hm, hrt, s7, R7, hG⟩
  simp only [List.cons.injEq, Value.slice.injEq, Value.int.injEq, true_and, and_true] at hi
  obtain ⟨⟨rfl, rfl, rfl⟩, rfl⟩ := hi
  obtain ⟨k, rfl⟩ : ∃ k, m = k + 1 := ⟨m - 1, by omega⟩
  have h7 := h.no (s7.ext.mono fun b ⟨_, _, h⟩ _ => h)
  have hseq : IntKind.u32.wrap (r.length : Int) = (r.length : Int) := by rw [IntKind.wrap_u32]; omega
  refine ⟨by omega, by omega, ?_⟩
  rw [hseq, Int.toNat_natCast]
  have hdl : l.length - t = (l.drop t).length := by rw [List.length_drop]
  rw [hdl]
  have hrec := record_spec (h7.cut t) (by rw [List.length_drop]; omega) (gen := gen) (seq := r.length)
  rw [List.map_drop, hL] at hrec
  refine hrec.mono fun u w11 ⟨ba, bc, he, hO, X11⟩ => ⟨_, _, _, _, he, fun hz => ?_, fun hz w36 q X36 hb hq hq' => ?_⟩
  · have hz' : (standK (L.drop t) gen r.length).2 = 0 := by omega
    simp only [scanG, hz', if_true, List.append_nil, Nat.add_zero] at hG
    have s11 := Step.of_no X11 s7.ok
    have R11 := R7.step s11 fun _ h => h.elim
    have s011 := s7.trans s11
    have h11 := h7.no X11
    refine ⟨fun m vs w1 => ∃ t2 : Nat, vs = [.int .u32 (roundOf gen (L.take t2) : Nat), .int .i64 t2] ∧ m + t2 = l.length ∧ w1 = w11, l.length, ⟨0, rfl, rfl, rfl⟩, ?_⟩
    rintro m2 w17 rd i ⟨t2, hi, hm2, rfl⟩
    simp only [List.cons.injEq, Value.int.injEq, true_and, and_true] at hi
    obtain ⟨rfl, rfl⟩ := hi
    refine ⟨fun h2 => ?_, fun h2 => ?_⟩
    · have htl : t2 < l.length := by omega
      have gt : l[t2]? = some l[t2] := List.getElem?_eq_getElem htl
      have hmt := List.getElem_mem htl
      have gL : L[t2]? = some (l[t2]).bs := by rw [← hL]; exact get_map_bs gt
      generalize l[t2] = x at *
      obtain ⟨xd, hxd, cx⟩ := h11.cell gt
      obtain ⟨rx, ex⟩ := h11.oks x hmt
      have hst := roundOf_step (gen := gen) gL
      have nx : ∀ v : Nat, v = roundOf gen (L.take (t2 + 1)) → (-9223372036854775808 : Int) ≤ ((t2 : Int) + 1) ∧ ((t2 : Int) + 1) < 9223372036854775808 ∧ ∃ m', m' < m2 ∧ ∃ t3 : Nat, [Value.int .u32 (v : Int), Value.int .i64 ((t2 : Int) + 1)] = [.int .u32 (roundOf gen (L.take t3) : Nat), .int .i64 t3] ∧ m' + t3 = l.length ∧ w17 = w17 := fun v hv => ⟨by omega, by omega, m2 - 1, by omega, t2 + 1, by rw [hv]; rfl, by omega, rfl⟩
      refine ⟨xd, hxd, by omega, by omega, x.a, x.bs.length, x.c, by rw [Int.toNat_natCast]; exact cx, ?_⟩
      refine (sIs_spec (c := x.c) rx).mono fun u w24 ⟨he, hw⟩ => ⟨_, he, fun hs => ?_, fun hs => ?_⟩
      · subst hw
        obtain ⟨h64, hmk⟩ := of_decide_eq_true hs
        refine (at_spec (i := 1) rx ex (by omega) (by omega)).mono fun u w28 ⟨he, hw⟩ => ⟨_, he, fun hgen => ?_, fun hgen => ?_⟩
        · subst hw
          refine (at_spec (i := 5) rx ex (by omega) (by omega)).mono fun u w32 ⟨he, hw⟩ => ⟨_, he, ?_⟩
          subst hw
          rw [max_int]
          exact nx _ (by rw [hst]; unfold roundStep; rw [if_pos ⟨h64, hmk, by omega⟩])
        · subst hw
          exact nx _ (by rw [hst]; unfold roundStep; rw [if_neg (by omega)])
      · subst hw
        have hs' := of_decide_eq_false hs
        exact nx _ (by rw [hst]; unfold roundStep; rw [if_neg (fun h => hs' ⟨h.1, h.2.1⟩)])
    · have htt : t2 = l.length := by omega
      have hfin : scanK L gen = ((r.map BS.bs, t), roundOf gen L) := by unfold scanK; rw [hT, ← hG]
      rw [hfin, htt, List.take_of_length_le (by omega)]
      exact ⟨_, ra, rc, r, rfl, Step.of_no (s011.ext.mono fun b ⟨_, _, h⟩ _ => h) ok, rfl, R11.give s011 (Nat.le_refl _)⟩
  · have hz' : ¬ (standK (L.drop t) gen r.length).2 = 0 := by omega
    have hsl := standK_le (L.drop t) gen r.length
    rw [List.length_drop] at hsl
    simp only [scanG, if_neg hz'] at hG
    have s11 := Step.of_no X11 s7.ok
    have R11 := R7.step s11 fun _ h => h.elim
    have okx : BSok w11 (grow w7 o7) ⟨ba, bc, (standK (L.drop t) gen r.length).1⟩ := ⟨Row.fresh hO.row fun ad ha => (hO.fr ad ha).1, hO.le⟩
    have l7 := s7.size
    obtain ⟨a', c', w39, o39, hr, s39, R39⟩ := R11.push s11.ok (by omega) okx X36 hb hq hq' (by have := X11.size; omega)
    refine ⟨a', _, c', w39, hr, by omega, by omega, k, by omega, t + (standK (L.drop t) gen r.length).2, o39, a', c', _, by rw [Int.natCast_add], by omega, by omega, by rw [List.length_append, List.length_singleton]; omega, (s7.trans s11).trans' s39 fun i hi => .inr hi, R39, ?_⟩
    rw [← hG, List.map_append, List.length_append, List.length_singleton, List.drop_drop]
    simp only [List.map_cons, List.map_nil, List.append_assoc, List.singleton_append, Nat.add_assoc]
end
end Go.Proofs.Ytgcjipbahfpopaa

/- Disk: predicates. -/
set_option linter.unusedVariables false
set_option linter.unusedSimpArgs false
set_option maxRecDepth 20000
set_option maxHeartbeats 2000000
namespace Go.Proofs.Ytgcjipbahfpopaa
open Go Go.Mx Go.Proofs
/-- disk.New -/
def disk_New.M (n1 : Int) (R : Value → World → Prop) (w : World) : Prop :=
 bif decide (n1 < 1) then (
 R (.tuple #[.pointer none, .int .i64 1]) w) else (
 bif decide (n1 > 400) then (
 R (.tuple #[.pointer none, .int .i64 1]) w) else (
 ∃ (a2 : Option Addr) (a3 : Nat) (a1 : Nat) (a0 : World), (Instr.makeSlice 75 (.int .i64 n1) (.int .i64 n1)).run Try.prog w = .ok (.slice a2 a3 a1) a0 ∧
 thenW (a0.alloc (.cells #[.slice a2 a3 a1, .slice none 0 0, .int .i64 0, .bool false, .int .i64 0, .int .i64 0] 79)) fun a4 =>
 R (.tuple #[.pointer (some (blk a0.heap.size)), .int .i64 0]) a4))

theorem disk_New.eq (n1 : Int) (R : Value → World → Prop) (w : World) : mfunc Try.prog [] 19 [.int .i64 n1] R w = disk_New.M n1 R w := by kernel_rfl
theorem disk_New.ok (n1 : Int) {R : Value → World → Prop} {w : World} (h : disk_New.M n1 R w) : Calls Try.prog 19 #[.int .i64 n1] w fun e w' => ∃ v, e = .returned v ∧ R v w' :=
  mfunc_ok follows (H := []) (args := [.int .i64 n1]) (by rw [disk_New.eq]; exact h)

def disk_New.N (n1 : Int) (R : Value → World → Prop) (w : World) : Prop :=
 (n1 < 1 →
 R (.tuple #[.pointer none, .int .i64 1]) w) ∧
 ((1 : Int) ≤ n1 →
 (n1 > 400 →
 R (.tuple #[.pointer none, .int .i64 1]) w) ∧
 (n1 ≤ 400 →
 ∃ (a2 : Option Addr) (a4 : Nat) (a3 : Nat) (a1 : World), (Instr.makeSlice 75 (.int .i64 n1) (.int .i64 n1)).run Try.prog w = .ok (.slice a2 a4 a3) a1 ∧
 ∀ (a0 : World) (q7 : Nat), Ext no a1 a0 → Blk a0 q7 79 [.slice a2 a4 a3, .slice none 0 0, .int .i64 0, .bool false, .int .i64 0, .int .i64 0] → a1.heap.size ≤ q7 → q7 < a0.heap.size →
 R (.tuple #[.pointer (some (blk q7)), .int .i64 0]) a0))

theorem disk_New.up (n1 : Int) {R : Value → World → Prop} {w : World} (h : disk_New.N n1 R w) : disk_New.M n1 R w := by
  unfold disk_New.M
  unfold disk_New.N at h
  refine bif_of (fun c2 => ?_) (fun c2 => ?_)
  · have h := h.1 (of_decide_eq_true c2)
    exact h
  · have h := h.2 (Int.not_lt.1 (of_decide_eq_false c2))
    refine bif_of (fun c3 => ?_) (fun c3 => ?_)
    · have h := h.1 (of_decide_eq_true c3)
      exact h
    · have h := h.2 (Int.not_lt.1 (of_decide_eq_false c3))
      obtain ⟨a1, a4, a2, a0, hr, h⟩ := h
      refine ⟨a1, a4, a2, a0, hr, ?_⟩
      refine thenW_in fun a3 e6 => ?_
      have h := h a3 a0.heap.size ((Ext.refl no a0).x_alloc e6) (Blk.of_new e6) ((Ext.refl no a0)).size (size_lt_alloc e6)
      exact h

theorem disk_New.go (n1 : Int) {R : Value → World → Prop} {w : World} (h : disk_New.N n1 R w) : Calls Try.prog 19 #[.int .i64 n1] w fun e w' => ∃ v, e = .returned v ∧ R v w' := disk_New.ok n1 (disk_New.up n1 h)
/-- (*disk.Disk).Sectors -/
def disk_Disk_Sectors.M (d1 : Option Addr) (R : Value → World → Prop) (w : World) : Prop :=
 bif Option.isNone d1 then (
 R (.int .i64 0) w) else (
 d1.elim False fun a2 =>
 ∃ (a3 : Option Addr) (a0 : Nat) (a1 : Nat), w.cell? (a2.add 0) = some (.slice a3 a0 a1) ∧
 R (.int .i64 (a0 : Int)) w)

theorem disk_Disk_Sectors.eq (d1 : Option Addr) (R : Value → World → Prop) (w : World) : mfunc Try.prog [] 53 [.pointer d1] R w = disk_Disk_Sectors.M d1 R w := by kernel_rfl
theorem disk_Disk_Sectors.ok (d1 : Option Addr) {R : Value → World → Prop} {w : World} (h : disk_Disk_Sectors.M d1 R w) : Calls Try.prog 53 #[.pointer d1] w fun e w' => ∃ v, e = .returned v ∧ R v w' :=
  mfunc_ok follows (H := []) (args := [.pointer d1]) (by rw [disk_Disk_Sectors.eq]; exact h)

def disk_Disk_Sectors.N (d1 : Option Addr) (R : Value → World → Prop) (w : World) : Prop :=
 (d1 = none →
 R (.int .i64 0) w) ∧
 (d1 ≠ none →
 ∃ a3 : Addr, d1 = some a3 ∧
 ∃ (a1 : Option Addr) (a0 : Nat) (a2 : Nat), w.cell? (a3.add 0) = some (.slice a1 a0 a2) ∧
 R (.int .i64 (a0 : Int)) w)

theorem disk_Disk_Sectors.up (d1 : Option Addr) {R : Value → World → Prop} {w : World} (h : disk_Disk_Sectors.N d1 R w) : disk_Disk_Sectors.M d1 R w := by
  unfold disk_Disk_Sectors.M
  unfold disk_Disk_Sectors.N at h
  refine bif_of (fun c2 => ?_) (fun c2 => ?_)
  · have h := h.1 (isNone_t c2)
    exact h
  · have h := h.2 (isNone_f c2)
    obtain ⟨a3, a4, h⟩ := h
    refine elim_some a4 ?_
    obtain ⟨a1, a0, a2, a5, h⟩ := h
    refine ⟨a1, a0, a2, a5, ?_⟩
    exact h

theorem disk_Disk_Sectors.go (d1 : Option Addr) {R : Value → World → Prop} {w : World} (h : disk_Disk_Sectors.N d1 R w) : Calls Try.prog 53 #[.pointer d1] w fun e w' => ∃ v, e = .returned v ∧ R v w' := disk_Disk_Sectors.ok d1 (disk_Disk_Sectors.up d1 h)
theorem disk_Disk_Sectors.run (d1 : Option Addr) {V : Value} {Q : World → Prop} {w : World} (h : disk_Disk_Sectors.N d1 (fun v w' => v = V ∧ Q w') w) : Calls Try.prog 53 #[.pointer d1] w (Ret V Q) := (disk_Disk_Sectors.go d1 h).mono fun e w' ⟨v, he, hv, hq⟩ => ⟨by rw [he, hv], hq⟩

/-- (*disk.Disk).is -/
def disk_Disk_is.M (d1 : Option Addr) (R : Value → World → Prop) (w : World) : Prop :=
 bif Option.isNone d1 then (
 R (.int .i64 23) w) else (
 d1.elim False fun a2 =>
 ∃ (a0 : Int), w.cell? (a2.add 4) = some (.int .i64 a0) ∧
 bif a0 == 1 then (
 R (.int .i64 19) w) else (
 R (.int .i64 0) w))

theorem disk_Disk_is.eq (d1 : Option Addr) (R : Value → World → Prop) (w : World) : mfunc Try.prog [] 43 [.pointer d1] R w = disk_Disk_is.M d1 R w := by kernel_rfl
theorem disk_Disk_is.ok (d1 : Option Addr) {R : Value → World → Prop} {w : World} (h : disk_Disk_is.M d1 R w) : Calls Try.prog 43 #[.pointer d1] w fun e w' => ∃ v, e = .returned v ∧ R v w' :=
  mfunc_ok follows (H := []) (args := [.pointer d1]) (by rw [disk_Disk_is.eq]; exact h)

def disk_Disk_is.N (d1 : Option Addr) (R : Value → World → Prop) (w : World) : Prop :=
 (d1 = none →
 R (.int .i64 23) w) ∧
 (d1 ≠ none →
 ∃ a3 : Addr, d1 = some a3 ∧
 ∃ (a0 : Int), w.cell? (a3.add 4) = some (.int .i64 a0) ∧
 (a0 = 1 →
 R (.int .i64 19) w) ∧
 (a0 ≠ 1 →
 R (.int .i64 0) w))

theorem disk_Disk_is.up (d1 : Option Addr) {R : Value → World → Prop} {w : World} (h : disk_Disk_is.N d1 R w) : disk_Disk_is.M d1 R w := by
  unfold disk_Disk_is.M
  unfold disk_Disk_is.N at h
  refine bif_of (fun c2 => ?_) (fun c2 => ?_)
  · have h := h.1 (isNone_t c2)
    exact h
  · have h := h.2 (isNone_f c2)
    obtain ⟨a3, a1, h⟩ := h
    refine elim_some a1 ?_
    obtain ⟨a0, a2, h⟩ := h
    refine ⟨a0, a2, ?_⟩
    refine bif_of (fun c6 => ?_) (fun c6 => ?_)
    · have h := h.1 (beq_t c6)
      exact h
    · have h := h.2 (beq_f c6)
      exact h

theorem disk_Disk_is.go (d1 : Option Addr) {R : Value → World → Prop} {w : World} (h : disk_Disk_is.N d1 R w) : Calls Try.prog 43 #[.pointer d1] w fun e w' => ∃ v, e = .returned v ∧ R v w' := disk_Disk_is.ok d1 (disk_Disk_is.up d1 h)
theorem disk_Disk_is.run (d1 : Option Addr) {V : Value} {Q : World → Prop} {w : World} (h : disk_Disk_is.N d1 (fun v w' => v = V ∧ Q w') w) : Calls Try.prog 43 #[.pointer d1] w (Ret V Q) := (disk_Disk_is.go d1 h).mono fun e w' ⟨v, he, hv, hq⟩ => ⟨by rw [he, hv], hq⟩

/-- (*disk.Disk).has -/
def disk_Disk_has.M (d1 : Option Addr) (i2 : Int) (R : Value → World → Prop) (w : World) : Prop :=
 Calls Try.prog 43 #[.pointer d1] w fun a5 a4 => ∃ (a2 : Int), a5 = .returned (.int .i64 a2) ∧
 bif a2 != 0 then (
 R (.int .i64 a2) a4) else (
 bif decide (i2 < 0) then (
 R (.int .i64 2) a4) else (
 d1.elim False fun a6 =>
 ∃ (a3 : Option Addr) (a0 : Nat) (a1 : Nat), a4.cell? (a6.add 0) = some (.slice a3 a0 a1) ∧
 bif decide (i2 ≥ (a0 : Int)) then (
 R (.int .i64 2) a4) else (
 R (.int .i64 0) a4)))

theorem disk_Disk_has.eq (d1 : Option Addr) (i2 : Int) (R : Value → World → Prop) (w : World) : mfunc Try.prog [] 46 [.pointer d1, .int .i64 i2] R w = disk_Disk_has.M d1 i2 R w := by kernel_rfl
theorem disk_Disk_has.ok (d1 : Option Addr) (i2 : Int) {R : Value → World → Prop} {w : World} (h : disk_Disk_has.M d1 i2 R w) : Calls Try.prog 46 #[.pointer d1, .int .i64 i2] w fun e w' => ∃ v, e = .returned v ∧ R v w' :=
  mfunc_ok follows (H := []) (args := [.pointer d1, .int .i64 i2]) (by rw [disk_Disk_has.eq]; exact h)

def disk_Disk_has.N (d1 : Option Addr) (i2 : Int) (R : Value → World → Prop) (w : World) : Prop :=
 Calls Try.prog 43 #[.pointer d1] w fun a5 a4 => ∃ (a2 : Int), a5 = .returned (.int .i64 a2) ∧
 (a2 ≠ 0 →
 R (.int .i64 a2) a4) ∧
 (a2 = 0 →
 (i2 < 0 →
 R (.int .i64 2) a4) ∧
 ((0 : Int) ≤ i2 →
 ∃ a8 : Addr, d1 = some a8 ∧
 ∃ (a3 : Option Addr) (a0 : Nat) (a1 : Nat), a4.cell? (a8.add 0) = some (.slice a3 a0 a1) ∧
 (i2 ≥ (a0 : Int) →
 R (.int .i64 2) a4) ∧
 (i2 < (a0 : Int) →
 R (.int .i64 0) a4)))

theorem disk_Disk_has.up (d1 : Option Addr) (i2 : Int) {R : Value → World → Prop} {w : World} (h : disk_Disk_has.N d1 i2 R w) : disk_Disk_has.M d1 i2 R w := by
  unfold disk_Disk_has.M
  unfold disk_Disk_has.N at h
  refine h.mono fun a9 a7 h => ?_
  obtain ⟨a3, he, h⟩ := h
  refine ⟨a3, he, ?_⟩
  refine bif_of (fun c6 => ?_) (fun c6 => ?_)
  · have h := h.1 (bne_t c6)
    exact h
  · have h := h.2 (bne_f c6)
    refine bif_of (fun c7 => ?_) (fun c7 => ?_)
    · have h := h.1 (of_decide_eq_true c7)
      exact h
    · have h := h.2 (Int.not_lt.1 (of_decide_eq_false c7))
      obtain ⟨a8, a5, h⟩ := h
      refine elim_some a5 ?_
      obtain ⟨a2, a1, a0, a6, h⟩ := h
      refine ⟨a2, a1, a0, a6, ?_⟩
      refine bif_of (fun a4 => ?_) (fun a4 => ?_)
      · have h := h.1 (of_decide_eq_true a4)
        exact h
      · have h := h.2 (Int.not_le.1 (of_decide_eq_false a4))
        exact h

theorem disk_Disk_has.go (d1 : Option Addr) (i2 : Int) {R : Value → World → Prop} {w : World} (h : disk_Disk_has.N d1 i2 R w) : Calls Try.prog 46 #[.pointer d1, .int .i64 i2] w fun e w' => ∃ v, e = .returned v ∧ R v w' := disk_Disk_has.ok d1 i2 (disk_Disk_has.up d1 i2 h)
theorem disk_Disk_has.run (d1 : Option Addr) (i2 : Int) {V : Value} {Q : World → Prop} {w : World} (h : disk_Disk_has.N d1 i2 (fun v w' => v = V ∧ Q w') w) : Calls Try.prog 46 #[.pointer d1, .int .i64 i2] w (Ret V Q) := (disk_Disk_has.go d1 i2 h).mono fun e w' ⟨v, he, hv, hq⟩ => ⟨by rw [he, hv], hq⟩

/-- (*disk.Disk).Read -/
def disk_Disk_Read.M (d1 : Option Addr) (i2 : Int) (R : Value → World → Prop) (w : World) : Prop :=
 Calls Try.prog 46 #[.pointer d1, .int .i64 i2] w fun ar a9 => ∃ (ab : Int), ar = .returned (.int .i64 ab) ∧
 bif ab != 0 then (
 R (.tuple #[.slice none 0 0, .int .i64 ab]) a9) else (
 d1.elim False fun a6 =>
 ∃ (a3 : Option Addr) (a5 : Nat) (ad : Nat), a9.cell? (a6.add 0) = some (.slice a3 a5 ad) ∧
 a3.elim False fun a8 =>
 0 ≤ (i2 : Int) ∧ (i2 : Int) < (a5 : Int) ∧
 ∃ x9 : Array Value, szB Try.prog 88 x9.size = true ∧ cellsAt a9 (a8.add (Int.toNat i2 * 65)) x9.toList 0 ∧
 thenW (a9.alloc (.cells (List.toArray (List.replicate 64 (.int .u8 0) ++ [.bool false])) 88)) fun ak =>
 bif szB Try.prog 88 x9.size then storesK (blk a9.heap.size) x9.toList 0 ak fun ae =>
 d1.elim False fun aq =>
 ∃ (a2 : Option Addr) (a0 : Nat) (aa : Nat), ae.cell? (aq.add 1) = some (.slice a2 a0 aa) ∧
 ∃ (I0 : Nat → List Value → World → Prop) (ao : Nat), I0 ao [.int .i64 0] ae ∧ ∀ (ai : Nat) (a1 : World) (ac : Int), I0 ai [.int .i64 ac] a1 →
 bif decide (ac < (a0 : Int)) then (
 a2.elim False fun ap =>
 0 ≤ (ac : Int) ∧ (ac : Int) < (a0 : Int) ∧
 ∃ ag : Array Value, szB Try.prog 90 ag.size = true ∧ cellsAt a1 (ap.add (Int.toNat ac * 66)) ag.toList 0 ∧
 thenW (a1.alloc (.cells (List.toArray ([.int .i64 0] ++ List.replicate 64 (.int .u8 0) ++ [.bool false])) 90)) fun aj =>
 bif szB Try.prog 90 ag.size then storesK (blk a1.heap.size) ag.toList 0 aj fun a7 =>
 ∃ (al : Int), a7.cell? ((blk a1.heap.size).add 0) = some (.int .i64 al) ∧
 bif al == i2 then (
 ∃ af : Array Value, szB Try.prog 88 af.size = true ∧ cellsAt a7 ((blk a1.heap.size).add 1) af.toList 0 ∧
 bif szB Try.prog 88 af.size then storesK (blk a9.heap.size) af.toList 0 a7 fun ah =>
 ∃ an, an < ai ∧ I0 an [.int .i64 (IntKind.i64.wrap (ac + 1))] ah
 else False) else (
 ∃ am, am < ai ∧ I0 am [.int .i64 (IntKind.i64.wrap (ac + 1))] a7)
 else False) else (
 ∃ (a4 : Bool), a1.cell? ((blk a9.heap.size).add 64) = some (.bool a4) ∧
 bif a4 then (
 R (.tuple #[.slice none 0 0, .int .i64 5]) a1) else (
 R (.tuple #[.slice (some (if 64 = 0 then ((blk a9.heap.size).add 0) else ((blk a9.heap.size).add 0).add (0 * 1))) (64 - 0) (64 - 0), .int .i64 0]) a1))
 else False)

theorem disk_Disk_Read.eq (d1 : Option Addr) (i2 : Int) (R : Value → World → Prop) (w : World) : mfunc Try.prog [(0, [1, 7, 26, 27], [(28, (.one (.int .i64)))])] 50 [.pointer d1, .int .i64 i2] R w = disk_Disk_Read.M d1 i2 R w := by kernel_rfl
theorem disk_Disk_Read.ok (d1 : Option Addr) (i2 : Int) {R : Value → World → Prop} {w : World} (h : disk_Disk_Read.M d1 i2 R w) : Calls Try.prog 50 #[.pointer d1, .int .i64 i2] w fun e w' => ∃ v, e = .returned v ∧ R v w' :=
  mfunc_ok follows (H := [(0, [1, 7, 26, 27], [(28, (.one (.int .i64)))])]) (args := [.pointer d1, .int .i64 i2]) (by rw [disk_Disk_Read.eq]; exact h)

def disk_Disk_Read.N (d1 : Option Addr) (i2 : Int) (R : Value → World → Prop) (w : World) : Prop :=
 Calls Try.prog 46 #[.pointer d1, .int .i64 i2] w fun av ag => ∃ (a9 : Int), av = .returned (.int .i64 a9) ∧
 (a9 ≠ 0 →
 R (.tuple #[.slice none 0 0, .int .i64 a9]) ag) ∧
 (a9 = 0 →
 ∃ a7 : Addr, d1 = some a7 ∧
 ∃ (a6 : Option Addr) (a5 : Nat) (ae : Nat), ag.cell? (a7.add 0) = some (.slice a6 a5 ae) ∧
 ∃ ao : Addr, a6 = some ao ∧
 0 ≤ (i2 : Int) ∧ (i2 : Int) < (a5 : Int) ∧
 ∃ ai : Array Value, szB Try.prog 88 ai.size = true ∧ cellsAt ag (ao.add (Int.toNat i2 * 65)) ai.toList 0 ∧
 ∀ (aa : World) (ad : Nat), Ext no ag aa → Blk aa ad 88 (List.replicate 64 (.int .u8 0) ++ [.bool false]) → ag.heap.size ≤ ad → ad < aa.heap.size →
 szB Try.prog 88 ai.size = true ∧
 storesK (blk ad) ai.toList 0 aa fun ah =>
 ∃ (a3 : Option Addr) (a0 : Nat) (ab : Nat), ah.cell? (a7.add 1) = some (.slice a3 a0 ab) ∧
 ∃ (I0 : Nat → List Value → World → Prop) (au : Nat), I0 au [.int .i64 0] ah ∧ ∀ (am : Nat) (a1 : World) (a4 : Int), I0 am [.int .i64 a4] a1 →
 (a4 < (a0 : Int) →
 ∃ ap : Addr, a3 = some ap ∧
 0 ≤ (a4 : Int) ∧ (a4 : Int) < (a0 : Int) ∧
 ∃ ak : Array Value, szB Try.prog 90 ak.size = true ∧ cellsAt a1 (ap.add (Int.toNat a4 * 66)) ak.toList 0 ∧
 ∀ (ac : World) (af : Nat), Ext no a1 ac → Blk ac af 90 ([.int .i64 0] ++ List.replicate 64 (.int .u8 0) ++ [.bool false]) → a1.heap.size ≤ af → af < ac.heap.size →
 szB Try.prog 90 ak.size = true ∧
 storesK (blk af) ak.toList 0 ac fun a8 =>
 ∃ (al : Int), a8.cell? ((blk af).add 0) = some (.int .i64 al) ∧
 (al = i2 →
 ∃ aj : Array Value, szB Try.prog 88 aj.size = true ∧ cellsAt a8 ((blk af).add 1) aj.toList 0 ∧
 szB Try.prog 88 aj.size = true ∧
 storesK (blk ad) aj.toList 0 a8 fun an =>
 (-9223372036854775808 : Int) ≤ (a4 + 1) ∧ (a4 + 1) < 9223372036854775808 ∧
 ∃ aq, aq < am ∧ I0 aq [.int .i64 (a4 + 1)] an) ∧
 (al ≠ i2 →
 (-9223372036854775808 : Int) ≤ (a4 + 1) ∧ (a4 + 1) < 9223372036854775808 ∧
 ∃ ar, ar < am ∧ I0 ar [.int .i64 (a4 + 1)] a8)) ∧
 ((a0 : Int) ≤ a4 →
 ∃ (a2 : Bool), a1.cell? ((blk ad).add 64) = some (.bool a2) ∧
 (a2 = true →
 R (.tuple #[.slice none 0 0, .int .i64 5]) a1) ∧
 (a2 = false →
 R (.tuple #[.slice (some (if 64 = 0 then ((blk ad).add 0) else ((blk ad).add 0).add (0 * 1))) (64 - 0) (64 - 0), .int .i64 0]) a1)))

theorem disk_Disk_Read.up (d1 : Option Addr) (i2 : Int) {R : Value → World → Prop} {w : World} (h : disk_Disk_Read.N d1 i2 R w) : disk_Disk_Read.M d1 i2 R w := by
  unfold disk_Disk_Read.M
  unfold disk_Disk_Read.N at h
  refine h.mono fun bf aj h => ?_
  obtain ⟨ah, he, h⟩ := h
  refine ⟨ah, he, ?_⟩
  refine bif_of (fun c6 => ?_) (fun c6 => ?_)
  · have h := h.1 (bne_t c6)
    exact h
  · have h := h.2 (bne_f c6)
    obtain ⟨a7, aw, h⟩ := h
    refine elim_some aw ?_
    obtain ⟨a6, a4, a8, b9, h⟩ := h
    refine ⟨a6, a4, a8, b9, ?_⟩
    obtain ⟨ba, ai, h⟩ := h
    refine elim_some ai ?_
    obtain ⟨ab, an, h⟩ := h
    refine ⟨ab, an, ?_⟩
    obtain ⟨b2, hz, ac, h⟩ := h
    refine ⟨b2, hz, ac, ?_⟩
    refine thenW_in fun al ar => ?_
    have h := h al aj.heap.size ((Ext.refl no aj).x_alloc ar) (Blk.of_new ar) ((Ext.refl no aj)).size (size_lt_alloc ar)
    obtain ⟨hsz, h⟩ := h
    refine bif_tt hsz ?_
    refine storesK_ext h fun b5 bc h => ?_
    refine elim_some aw ?_
    obtain ⟨a1, a3, a2, ag, h⟩ := h
    refine ⟨a1, a3, a2, ag, ?_⟩
    obtain ⟨I0, b0, h0, h⟩ := h
    refine ⟨I0, b0, h0, fun b1 a0 az hI => ?_⟩
    have h := h b1 a0 az hI
    refine bif_of (fun ak => ?_) (fun ak => ?_)
    · have h := h.1 (of_decide_eq_true ak)
      obtain ⟨bb, au, h⟩ := h
      refine elim_some au ?_
      obtain ⟨ab, an, h⟩ := h
      refine ⟨ab, an, ?_⟩
      obtain ⟨b7, hz, ad, h⟩ := h
      refine ⟨b7, hz, ad, ?_⟩
      refine thenW_in fun ao a9 => ?_
      have h := h ao a0.heap.size ((Ext.refl no a0).x_alloc a9) (Blk.of_new a9) ((Ext.refl no a0)).size (size_lt_alloc a9)
      obtain ⟨hsz, h⟩ := h
      refine bif_tt hsz ?_
      refine storesK_ext h fun ax bd h => ?_
      obtain ⟨ay, aq, h⟩ := h
      refine ⟨ay, aq, ?_⟩
      refine bif_of (fun ap => ?_) (fun ap => ?_)
      · have h := h.1 (beq_t ap)
        obtain ⟨b4, hz, aa, h⟩ := h
        refine ⟨b4, hz, aa, ?_⟩
        obtain ⟨hsz, h⟩ := h
        refine bif_tt hsz ?_
        refine storesK_ext h fun b3 be h => ?_
        obtain ⟨av, af, h⟩ := h
        try rw [w64 av af]
        obtain ⟨b6, hk, h⟩ := h
        exact ⟨b6, hk, h⟩
      · have h := h.2 (beq_f ap)
        obtain ⟨av, af, h⟩ := h
        try rw [w64 av af]
        obtain ⟨b8, hk, h⟩ := h
        exact ⟨b8, hk, h⟩
    · have h := h.2 (Int.not_lt.1 (of_decide_eq_false ak))
      obtain ⟨a5, ae, h⟩ := h
      refine ⟨a5, ae, ?_⟩
      refine bif_of (fun am => ?_) (fun am => ?_)
      · have h := h.1 am
        exact h
      · have h := h.2 am
        exact h

theorem disk_Disk_Read.go (d1 : Option Addr) (i2 : Int) {R : Value → World → Prop} {w : World} (h : disk_Disk_Read.N d1 i2 R w) : Calls Try.prog 50 #[.pointer d1, .int .i64 i2] w fun e w' => ∃ v, e = .returned v ∧ R v w' := disk_Disk_Read.ok d1 i2 (disk_Disk_Read.up d1 i2 h)
/-- (*disk.Disk).settle -/
def disk_Disk_settle.M (d1 : Option Addr) (a1 : Nat) (a8 : Array Value) (a7 : Array Value) (R : Value → World → Prop) (w : World) : Prop :=
 d1.elim False fun a3 =>
 ∃ (aa : Option Addr) (a0 : Nat) (ag : Nat), w.cell? (a3.add 1) = some (.slice aa a0 ag) ∧
 ∃ (I0 : Nat → List Value → World → Prop) (m6 : Nat), I0 m6 [.int .i64 0] w ∧ ∀ (m7 : Nat) (ab : World) (t5 : Int), I0 m7 [.int .i64 t5] ab →
 bif decide (t5 < (a0 : Int)) then (
 aa.elim False fun a9 =>
 0 ≤ (t5 : Int) ∧ (t5 : Int) < (a0 : Int) ∧
 ∃ am : Array Value, szB Try.prog 90 am.size = true ∧ cellsAt ab (a9.add (Int.toNat t5 * 66)) am.toList 0 ∧
 thenW (ab.alloc (.cells (List.toArray ([.int .i64 0] ++ List.replicate 64 (.int .u8 0) ++ [.bool false])) 90)) fun au =>
 bif szB Try.prog 90 am.size then storesK (blk ab.heap.size) am.toList 0 au fun ai =>
 bif enters Try.prog a1 then Calls Try.prog a1 (a8.toList ++ ([.int .i64 t5] : List Value) ++ a7.toList).toArray ai (fun aq aj => ∃ (ak : Bool), aq = .returned (.bool ak) ∧
 bif ak then (
 thenW (aj.drew) fun ae =>
 d1.elim False fun b2 =>
 ∃ (a4 : Option Addr) (a2 : Nat) (ac : Nat), ae.cell? (b2.add 0) = some (.slice a4 a2 ac) ∧
 ∃ (ap : Int), ae.cell? ((blk ab.heap.size).add 0) = some (.int .i64 ap) ∧
 ∃ al : Array Value, szB Try.prog 88 al.size = true ∧ cellsAt ae ((blk ab.heap.size).add 1) al.toList 0 ∧
 a4.elim False fun b5 =>
 0 ≤ (ap : Int) ∧ (ap : Int) < (a2 : Int) ∧
 bif szB Try.prog 88 al.size then storesK (b5.add (Int.toNat ap * 65)) al.toList 0 ae fun aw =>
 ∃ ax, ax < m7 ∧ I0 ax [.int .i64 (IntKind.i64.wrap (t5 + 1))] aw
 else False) else (
 ∃ b1, b1 < m7 ∧ I0 b1 [.int .i64 (IntKind.i64.wrap (t5 + 1))] aj)) else (∃ (ak : Bool) (ah : World), (externCall a1 (a8.toList ++ ([.int .i64 t5] : List Value) ++ a7.toList).toArray).run Try.prog ai = .ok (.bool ak) ah ∧
 bif ak then (
 thenW (ah.drew) fun ad =>
 d1.elim False fun b4 =>
 ∃ (a5 : Option Addr) (a6 : Nat) (af : Nat), ad.cell? (b4.add 0) = some (.slice a5 a6 af) ∧
 ∃ (ao : Int), ad.cell? ((blk ab.heap.size).add 0) = some (.int .i64 ao) ∧
 ∃ an : Array Value, szB Try.prog 88 an.size = true ∧ cellsAt ad ((blk ab.heap.size).add 1) an.toList 0 ∧
 a5.elim False fun b3 =>
 0 ≤ (ao : Int) ∧ (ao : Int) < (a6 : Int) ∧
 bif szB Try.prog 88 an.size then storesK (b3.add (Int.toNat ao * 65)) an.toList 0 ad fun av =>
 ∃ b0, b0 < m7 ∧ I0 b0 [.int .i64 (IntKind.i64.wrap (t5 + 1))] av
 else False) else (
 ∃ ay, ay < m7 ∧ I0 ay [.int .i64 (IntKind.i64.wrap (t5 + 1))] ah))
 else False) else (
 d1.elim False fun az =>
 canStore ab ((az.add 1).add 0) ∧
 thenW (ab.setCell ((az.add 1).add 0) (.slice none 0 0)) fun ar =>
 R (.tuple #[]) ar)

theorem disk_Disk_settle.eq (d1 : Option Addr) (keep2k : Nat) (keep2f : Array Value) (keep2g : Array Value) (R : Value → World → Prop) (w : World) : mfunc Try.prog [(0, [0, 1, 9, 10], [(11, (.one (.int .i64)))])] 45 [.pointer d1, .func (.func keep2k) keep2f keep2g] R w = disk_Disk_settle.M d1 keep2k keep2f keep2g R w := by kernel_rfl
theorem disk_Disk_settle.ok (d1 : Option Addr) (a0 : Nat) (a1 : Array Value) (a2 : Array Value) {R : Value → World → Prop} {w : World} (h : disk_Disk_settle.M d1 a0 a1 a2 R w) : Calls Try.prog 45 #[.pointer d1, .func (.func a0) a1 a2] w fun e w' => ∃ v, e = .returned v ∧ R v w' :=
  mfunc_ok follows (H := [(0, [0, 1, 9, 10], [(11, (.one (.int .i64)))])]) (args := [.pointer d1, .func (.func a0) a1 a2]) (by rw [disk_Disk_settle.eq]; exact h)

def disk_Disk_settle.N (d1 : Option Addr) (a5 : Nat) (ab : Array Value) (aa : Array Value) (R : Value → World → Prop) (w : World) : Prop :=
 ∃ a3 : Addr, d1 = some a3 ∧
 ∃ (a6 : Option Addr) (a0 : Nat) (a9 : Nat), w.cell? (a3.add 1) = some (.slice a6 a0 a9) ∧
 ∃ (I0 : Nat → List Value → World → Prop) (m7 : Nat), I0 m7 [.int .i64 0] w ∧ ∀ (m8 : Nat) (ad : World) (t6 : Int), I0 m8 [.int .i64 t6] ad →
 (t6 < (a0 : Int) →
 ∃ ao : Addr, a6 = some ao ∧
 0 ≤ (t6 : Int) ∧ (t6 : Int) < (a0 : Int) ∧
 ∃ ah : Array Value, szB Try.prog 90 ah.size = true ∧ cellsAt ad (ao.add (Int.toNat t6 * 66)) ah.toList 0 ∧
 ∀ (a8 : World) (ac : Nat), Ext no ad a8 → Blk a8 ac 90 ([.int .i64 0] ++ List.replicate 64 (.int .u8 0) ++ [.bool false]) → ad.heap.size ≤ ac → ac < a8.heap.size →
 szB Try.prog 90 ah.size = true ∧
 storesK (blk ac) ah.toList 0 a8 fun al =>
 enters Try.prog a5 = true ∧ Calls Try.prog a5 (ab.toList ++ ([.int .i64 t6] : List Value) ++ aa.toList).toArray al (fun ak a4 => ∃ (ai : Bool), ak = .returned (.bool ai) ∧
 (ai = true →
 ∃ (a2 : Option Addr) (a1 : Nat) (a7 : Nat), a4.cell? (a3.add 0) = some (.slice a2 a1 a7) ∧
 ∃ (ag : Int), a4.cell? ((blk ac).add 0) = some (.int .i64 ag) ∧
 ∃ af : Array Value, szB Try.prog 88 af.size = true ∧ cellsAt a4 ((blk ac).add 1) af.toList 0 ∧
 ∃ an : Addr, a2 = some an ∧
 0 ≤ (ag : Int) ∧ (ag : Int) < (a1 : Int) ∧
 ∀ (ae : World), Ext no a4 ae →
 szB Try.prog 88 af.size = true ∧
 storesK (an.add (Int.toNat ag * 65)) af.toList 0 ae fun am =>
 (-9223372036854775808 : Int) ≤ (t6 + 1) ∧ (t6 + 1) < 9223372036854775808 ∧
 ∃ aq, aq < m8 ∧ I0 aq [.int .i64 (t6 + 1)] am) ∧
 (ai = false →
 (-9223372036854775808 : Int) ≤ (t6 + 1) ∧ (t6 + 1) < 9223372036854775808 ∧
 ∃ ap, ap < m8 ∧ I0 ap [.int .i64 (t6 + 1)] a4))) ∧
 ((a0 : Int) ≤ t6 →
 canStore ad ((a3.add 1).add 0) ∧
 thenW (ad.setCell ((a3.add 1).add 0) (.slice none 0 0)) fun aj =>
 R (.tuple #[]) aj)

theorem disk_Disk_settle.up (d1 : Option Addr) (a2 : Nat) (a1 : Array Value) (a0 : Array Value) {R : Value → World → Prop} {w : World} (h : disk_Disk_settle.N d1 a2 a1 a0 R w) : disk_Disk_settle.M d1 a2 a1 a0 R w := by
  unfold disk_Disk_settle.M
  unfold disk_Disk_settle.N at h
  obtain ⟨a3, am, h⟩ := h
  refine elim_some am ?_
  obtain ⟨aa, a9, a8, az, h⟩ := h
  refine ⟨aa, a9, a8, az, ?_⟩
  obtain ⟨I0, m7, h0, h⟩ := h
  refine ⟨I0, m7, h0, fun m8 ab t6 hI => ?_⟩
  have h := h m8 ab t6 hI
  refine bif_of (fun ah => ?_) (fun ah => ?_)
  · have h := h.1 (of_decide_eq_true ah)
    obtain ⟨ba, ac, h⟩ := h
    refine elim_some ac ?_
    obtain ⟨ae, ao, h⟩ := h
    refine ⟨ae, ao, ?_⟩
    obtain ⟨b2, hz, aq, h⟩ := h
    refine ⟨b2, hz, aq, ?_⟩
    refine thenW_in fun ap aj => ?_
    have h := h ap ab.heap.size ((Ext.refl no ab).x_alloc aj) (Blk.of_new aj) ((Ext.refl no ab)).size (size_lt_alloc aj)
    obtain ⟨hsz, h⟩ := h
    refine bif_tt hsz ?_
    refine storesK_ext h fun b4 bb h => ?_
    obtain ⟨hen, h⟩ := h
    refine bif_tt hen ?_
    refine h.mono fun b1 af h => ?_
    obtain ⟨ay, he, h⟩ := h
    refine ⟨ay, he, ?_⟩
    refine bif_of (fun an => ?_) (fun an => ?_)
    · have h := h.1 an
      refine thenW_in fun ak b3 => ?_
      have a7 := (Ext.refl no af).x_drew b3
      refine elim_some am ?_
      obtain ⟨a6, a4, a5, au, h⟩ := h
      refine ⟨a6, a4, a5, (a7).cell au id, ?_⟩
      obtain ⟨ax, ag, h⟩ := h
      refine ⟨ax, (a7).cell ag id, ?_⟩
      obtain ⟨aw, hz, al, h⟩ := h
      refine ⟨aw, hz, cellsAt_no (a7) al, ?_⟩
      obtain ⟨b9, ad, h⟩ := h
      refine elim_some ad ?_
      obtain ⟨ae, ao, h⟩ := h
      refine ⟨ae, ao, ?_⟩
      have h := h ak a7
      obtain ⟨hsz, h⟩ := h
      refine bif_tt hsz ?_
      refine storesK_ext h fun b5 b8 h => ?_
      obtain ⟨ar, ai, h⟩ := h
      try rw [w64 ar ai]
      obtain ⟨b7, hk, h⟩ := h
      exact ⟨b7, hk, h⟩
    · have h := h.2 an
      obtain ⟨ar, ai, h⟩ := h
      try rw [w64 ar ai]
      obtain ⟨b6, hk, h⟩ := h
      exact ⟨b6, hk, h⟩
  · have h := h.2 (Int.not_lt.1 (of_decide_eq_false ah))
    refine elim_some am ?_
    obtain ⟨hcs, h⟩ := h
    refine ⟨hcs, thenW_in fun b0 av => ?_⟩
    replace h := thenW_out h av
    exact h

theorem disk_Disk_settle.go (d1 : Option Addr) (a0 : Nat) (a1 : Array Value) (a2 : Array Value) {R : Value → World → Prop} {w : World} (h : disk_Disk_settle.N d1 a0 a1 a2 R w) : Calls Try.prog 45 #[.pointer d1, .func (.func a0) a1 a2] w fun e w' => ∃ v, e = .returned v ∧ R v w' := disk_Disk_settle.ok d1 a0 a1 a2 (disk_Disk_settle.up d1 a0 a1 a2 h)
theorem disk_Disk_settle.run (d1 : Option Addr) (a0 : Nat) (a1 : Array Value) (a2 : Array Value) {V : Value} {Q : World → Prop} {w : World} (h : disk_Disk_settle.N d1 a0 a1 a2 (fun v w' => v = V ∧ Q w') w) : Calls Try.prog 45 #[.pointer d1, .func (.func a0) a1 a2] w (Ret V Q) := (disk_Disk_settle.go d1 a0 a1 a2 h).mono fun e w' ⟨v, he, hv, hq⟩ => ⟨by rw [he, hv], hq⟩

/-- (*disk.Disk).Write -/
def disk_Disk_Write.M (d1 : Option Addr) (i2 : Int) (da : Option Addr) (d4 : Nat) (d5 : Nat) (R : Value → World → Prop) (w : World) : Prop :=
 Calls Try.prog 46 #[.pointer d1, .int .i64 i2] w fun d6 a0 => ∃ (aj : Int), d6 = .returned (.int .i64 aj) ∧
 bif aj != 0 then (
 R (.int .i64 aj) a0) else (
 bif (d4 : Int) != 64 then (
 R (.int .i64 1) a0) else (
 thenW (a0.alloc (.cells (List.toArray ([.int .i64 0] ++ List.replicate 64 (.int .u8 0) ++ [.bool false])) 90)) fun cz =>
 canStore cz ((blk a0.heap.size).add 0) ∧
 thenW (cz.setCell ((blk a0.heap.size).add 0) (.int .i64 i2)) fun cy =>
 canStore cy ((blk a0.heap.size).add 1) ∧
 thenW (cy.setCell ((blk a0.heap.size).add 1) (.int .u8 0)) fun d0 =>
 canStore d0 ((blk a0.heap.size).add 2) ∧
 thenW (d0.setCell ((blk a0.heap.size).add 2) (.int .u8 0)) fun be =>
 canStore be ((blk a0.heap.size).add 3) ∧
 thenW (be.setCell ((blk a0.heap.size).add 3) (.int .u8 0)) fun bm =>
 canStore bm ((blk a0.heap.size).add 4) ∧
 thenW (bm.setCell ((blk a0.heap.size).add 4) (.int .u8 0)) fun b7 =>
 canStore b7 ((blk a0.heap.size).add 5) ∧
 thenW (b7.setCell ((blk a0.heap.size).add 5) (.int .u8 0)) fun aq =>
 canStore aq ((blk a0.heap.size).add 6) ∧
 thenW (aq.setCell ((blk a0.heap.size).add 6) (.int .u8 0)) fun ck =>
 canStore ck ((blk a0.heap.size).add 7) ∧
 thenW (ck.setCell ((blk a0.heap.size).add 7) (.int .u8 0)) fun cm =>
 canStore cm ((blk a0.heap.size).add 8) ∧
 thenW (cm.setCell ((blk a0.heap.size).add 8) (.int .u8 0)) fun bc =>
 canStore bc ((blk a0.heap.size).add 9) ∧
 thenW (bc.setCell ((blk a0.heap.size).add 9) (.int .u8 0)) fun ax =>
 canStore ax ((blk a0.heap.size).add 10) ∧
 thenW (ax.setCell ((blk a0.heap.size).add 10) (.int .u8 0)) fun cn =>
 canStore cn ((blk a0.heap.size).add 11) ∧
 thenW (cn.setCell ((blk a0.heap.size).add 11) (.int .u8 0)) fun b6 =>
 canStore b6 ((blk a0.heap.size).add 12) ∧
 thenW (b6.setCell ((blk a0.heap.size).add 12) (.int .u8 0)) fun c1 =>
 canStore c1 ((blk a0.heap.size).add 13) ∧
 thenW (c1.setCell ((blk a0.heap.size).add 13) (.int .u8 0)) fun b8 =>
 canStore b8 ((blk a0.heap.size).add 14) ∧
 thenW (b8.setCell ((blk a0.heap.size).add 14) (.int .u8 0)) fun ap =>
 canStore ap ((blk a0.heap.size).add 15) ∧
 thenW (ap.setCell ((blk a0.heap.size).add 15) (.int .u8 0)) fun c5 =>
 canStore c5 ((blk a0.heap.size).add 16) ∧
 thenW (c5.setCell ((blk a0.heap.size).add 16) (.int .u8 0)) fun cd =>
 canStore cd ((blk a0.heap.size).add 17) ∧
 thenW (cd.setCell ((blk a0.heap.size).add 17) (.int .u8 0)) fun az =>
 canStore az ((blk a0.heap.size).add 18) ∧
 thenW (az.setCell ((blk a0.heap.size).add 18) (.int .u8 0)) fun bb =>
 canStore bb ((blk a0.heap.size).add 19) ∧
 thenW (bb.setCell ((blk a0.heap.size).add 19) (.int .u8 0)) fun bu =>
 canStore bu ((blk a0.heap.size).add 20) ∧
 thenW (bu.setCell ((blk a0.heap.size).add 20) (.int .u8 0)) fun b3 =>
 canStore b3 ((blk a0.heap.size).add 21) ∧
 thenW (b3.setCell ((blk a0.heap.size).add 21) (.int .u8 0)) fun cl =>
 canStore cl ((blk a0.heap.size).add 22) ∧
 thenW (cl.setCell ((blk a0.heap.size).add 22) (.int .u8 0)) fun b0 =>
 canStore b0 ((blk a0.heap.size).add 23) ∧
 thenW (b0.setCell ((blk a0.heap.size).add 23) (.int .u8 0)) fun cj =>
 canStore cj ((blk a0.heap.size).add 24) ∧
 thenW (cj.setCell ((blk a0.heap.size).add 24) (.int .u8 0)) fun b9 =>
 canStore b9 ((blk a0.heap.size).add 25) ∧
 thenW (b9.setCell ((blk a0.heap.size).add 25) (.int .u8 0)) fun bi =>
 canStore bi ((blk a0.heap.size).add 26) ∧
 thenW (bi.setCell ((blk a0.heap.size).add 26) (.int .u8 0)) fun bw =>
 canStore bw ((blk a0.heap.size).add 27) ∧
 thenW (bw.setCell ((blk a0.heap.size).add 27) (.int .u8 0)) fun av =>
 canStore av ((blk a0.heap.size).add 28) ∧
 thenW (av.setCell ((blk a0.heap.size).add 28) (.int .u8 0)) fun b4 =>
 canStore b4 ((blk a0.heap.size).add 29) ∧
 thenW (b4.setCell ((blk a0.heap.size).add 29) (.int .u8 0)) fun bz =>
 canStore bz ((blk a0.heap.size).add 30) ∧
 thenW (bz.setCell ((blk a0.heap.size).add 30) (.int .u8 0)) fun cp =>
 canStore cp ((blk a0.heap.size).add 31) ∧
 thenW (cp.setCell ((blk a0.heap.size).add 31) (.int .u8 0)) fun bq =>
 canStore bq ((blk a0.heap.size).add 32) ∧
 thenW (bq.setCell ((blk a0.heap.size).add 32) (.int .u8 0)) fun b5 =>
 canStore b5 ((blk a0.heap.size).add 33) ∧
 thenW (b5.setCell ((blk a0.heap.size).add 33) (.int .u8 0)) fun b1 =>
 canStore b1 ((blk a0.heap.size).add 34) ∧
 thenW (b1.setCell ((blk a0.heap.size).add 34) (.int .u8 0)) fun bk =>
 canStore bk ((blk a0.heap.size).add 35) ∧
 thenW (bk.setCell ((blk a0.heap.size).add 35) (.int .u8 0)) fun au =>
 canStore au ((blk a0.heap.size).add 36) ∧
 thenW (au.setCell ((blk a0.heap.size).add 36) (.int .u8 0)) fun ar =>
 canStore ar ((blk a0.heap.size).add 37) ∧
 thenW (ar.setCell ((blk a0.heap.size).add 37) (.int .u8 0)) fun bj =>
 canStore bj ((blk a0.heap.size).add 38) ∧
 thenW (bj.setCell ((blk a0.heap.size).add 38) (.int .u8 0)) fun ce =>
 canStore ce ((blk a0.heap.size).add 39) ∧
 thenW (ce.setCell ((blk a0.heap.size).add 39) (.int .u8 0)) fun c2 =>
 canStore c2 ((blk a0.heap.size).add 40) ∧
 thenW (c2.setCell ((blk a0.heap.size).add 40) (.int .u8 0)) fun ca =>
 canStore ca ((blk a0.heap.size).add 41) ∧
 thenW (ca.setCell ((blk a0.heap.size).add 41) (.int .u8 0)) fun am =>
 canStore am ((blk a0.heap.size).add 42) ∧
 thenW (am.setCell ((blk a0.heap.size).add 42) (.int .u8 0)) fun cg =>
 canStore cg ((blk a0.heap.size).add 43) ∧
 thenW (cg.setCell ((blk a0.heap.size).add 43) (.int .u8 0)) fun c6 =>
 canStore c6 ((blk a0.heap.size).add 44) ∧
 thenW (c6.setCell ((blk a0.heap.size).add 44) (.int .u8 0)) fun aw =>
 canStore aw ((blk a0.heap.size).add 45) ∧
 thenW (aw.setCell ((blk a0.heap.size).add 45) (.int .u8 0)) fun cc =>
 canStore cc ((blk a0.heap.size).add 46) ∧
 thenW (cc.setCell ((blk a0.heap.size).add 46) (.int .u8 0)) fun ao =>
 canStore ao ((blk a0.heap.size).add 47) ∧
 thenW (ao.setCell ((blk a0.heap.size).add 47) (.int .u8 0)) fun al =>
 canStore al ((blk a0.heap.size).add 48) ∧
 thenW (al.setCell ((blk a0.heap.size).add 48) (.int .u8 0)) fun bn =>
 canStore bn ((blk a0.heap.size).add 49) ∧
 thenW (bn.setCell ((blk a0.heap.size).add 49) (.int .u8 0)) fun co =>
 canStore co ((blk a0.heap.size).add 50) ∧
 thenW (co.setCell ((blk a0.heap.size).add 50) (.int .u8 0)) fun c9 =>
 canStore c9 ((blk a0.heap.size).add 51) ∧
 thenW (c9.setCell ((blk a0.heap.size).add 51) (.int .u8 0)) fun ch =>
 canStore ch ((blk a0.heap.size).add 52) ∧
 thenW (ch.setCell ((blk a0.heap.size).add 52) (.int .u8 0)) fun b2 =>
 canStore b2 ((blk a0.heap.size).add 53) ∧
 thenW (b2.setCell ((blk a0.heap.size).add 53) (.int .u8 0)) fun c4 =>
 canStore c4 ((blk a0.heap.size).add 54) ∧
 thenW (c4.setCell ((blk a0.heap.size).add 54) (.int .u8 0)) fun an =>
 canStore an ((blk a0.heap.size).add 55) ∧
 thenW (an.setCell ((blk a0.heap.size).add 55) (.int .u8 0)) fun cb =>
 canStore cb ((blk a0.heap.size).add 56) ∧
 thenW (cb.setCell ((blk a0.heap.size).add 56) (.int .u8 0)) fun bh =>
 canStore bh ((blk a0.heap.size).add 57) ∧
 thenW (bh.setCell ((blk a0.heap.size).add 57) (.int .u8 0)) fun bo =>
 canStore bo ((blk a0.heap.size).add 58) ∧
 thenW (bo.setCell ((blk a0.heap.size).add 58) (.int .u8 0)) fun ci =>
 canStore ci ((blk a0.heap.size).add 59) ∧
 thenW (ci.setCell ((blk a0.heap.size).add 59) (.int .u8 0)) fun bl =>
 canStore bl ((blk a0.heap.size).add 60) ∧
 thenW (bl.setCell ((blk a0.heap.size).add 60) (.int .u8 0)) fun bg =>
 canStore bg ((blk a0.heap.size).add 61) ∧
 thenW (bg.setCell ((blk a0.heap.size).add 61) (.int .u8 0)) fun c7 =>
 canStore c7 ((blk a0.heap.size).add 62) ∧
 thenW (c7.setCell ((blk a0.heap.size).add 62) (.int .u8 0)) fun bt =>
 canStore bt ((blk a0.heap.size).add 63) ∧
 thenW (bt.setCell ((blk a0.heap.size).add 63) (.int .u8 0)) fun ba =>
 canStore ba ((blk a0.heap.size).add 64) ∧
 thenW (ba.setCell ((blk a0.heap.size).add 64) (.int .u8 0)) fun bd =>
 canStore bd ((blk a0.heap.size).add 65) ∧
 thenW (bd.setCell ((blk a0.heap.size).add 65) (.bool false)) fun cq =>
 ∃ (d9 : Int) (bv : World), (Builtin.copy_ #[23, 23] 3 #[.slice (some (if 64 = 0 then (((blk a0.heap.size).add 1).add 0) else (((blk a0.heap.size).add 1).add 0).add (0 * 1))) (64 - 0) (64 - 0), .slice da d4 d5]).run Try.prog cq = .ok (.int .i64 d9) bv ∧
 thenW (bv.drew) fun ak =>
 d1.elim False fun d2 =>
 ∃ (a5 : Option Addr) (a4 : Nat) (a3 : Nat), ak.cell? (d2.add 1) = some (.slice a5 a4 a3) ∧
 ∃ cs : Array Value, szB Try.prog 90 cs.size = true ∧ cellsAt ak (blk a0.heap.size) cs.toList 0 ∧
 mslit Try.prog 76 1 [(0, Value.agg cs)] ak fun (c8 : Value) (br : World) =>
 br.cell? (d2.add 1) = some (.slice a5 a4 a3) ∧
 ∃ (c0 : Option Addr) (bs : Nat) (bx : Nat) (ai : World), (Builtin.append_ #[76, 76] 76 #[.slice a5 a4 a3, c8]).run Try.prog br = .ok (.slice c0 bs bx) ai ∧
 d1.elim False fun cx =>
 canStore ai ((cx.add 1).add 0) ∧
 thenW (ai.setCell ((cx.add 1).add 0) (.slice c0 bs bx)) fun a2 =>
 d1.elim False fun dd =>
 ∃ (a9 : Bool), a2.cell? (dd.add 3) = some (.bool a9) ∧
 bif a9 then (
 d1.elim False fun dc =>
 ∃ (ad : Int), a2.cell? (dc.add 2) = some (.int .i64 ad) ∧
 bif ad == 0 then (
 d1.elim False fun d3 =>
 canStore a2 ((d3.add 4).add 0) ∧
 thenW (a2.setCell ((d3.add 4).add 0) (.int .i64 1)) fun cr =>
 thenW (cr.drew) fun ah =>
 d1.elim False fun d8 =>
 ∃ (ab : Option Addr) (a8 : Nat) (af : Nat), ah.cell? (d8.add 1) = some (.slice ab a8 af) ∧
 d1.elim False fun db =>
 ∃ (ag : Option Addr) (a1 : Nat) (ae : Nat), ah.cell? (db.add 1) = some (.slice ag a1 ae) ∧
 ab.elim False fun cw =>
 0 ≤ ((IntKind.i64.wrap ((a1 : Int) - 1)) : Int) ∧ ((IntKind.i64.wrap ((a1 : Int) - 1)) : Int) < (a8 : Int) ∧
 canStore ah ((((cw.add (Int.toNat (IntKind.i64.wrap ((a1 : Int) - 1)) * 66)).add 1).add 64).add 0) ∧
 thenW (ah.setCell ((((cw.add (Int.toNat (IntKind.i64.wrap ((a1 : Int) - 1)) * 66)).add 1).add 64).add 0) (.bool true)) fun cv =>
 R (.int .i64 19) cv) else (
 d1.elim False fun d7 =>
 ∃ (aa : Int), a2.cell? (d7.add 2) = some (.int .i64 aa) ∧
 d1.elim False fun c3 =>
 canStore a2 ((c3.add 2).add 0) ∧
 thenW (a2.setCell ((c3.add 2).add 0) (.int .i64 (IntKind.i64.wrap (aa - 1)))) fun ac =>
 d1.elim False fun cu =>
 ∃ (a6 : Int), ac.cell? (cu.add 5) = some (.int .i64 a6) ∧
 d1.elim False fun ay =>
 canStore ac ((ay.add 5).add 0) ∧
 thenW (ac.setCell ((ay.add 5).add 0) (.int .i64 (IntKind.i64.wrap (a6 + 1)))) fun bf =>
 R (.int .i64 0) bf)) else (
 d1.elim False fun ct =>
 ∃ (a7 : Int), a2.cell? (ct.add 5) = some (.int .i64 a7) ∧
 d1.elim False fun bp =>
 canStore a2 ((bp.add 5).add 0) ∧
 thenW (a2.setCell ((bp.add 5).add 0) (.int .i64 (IntKind.i64.wrap (a7 + 1)))) fun cf =>
 R (.int .i64 0) cf)))

theorem disk_Disk_Write.eq (d1 : Option Addr) (i2 : Int) (b3a : Option Addr) (b3n : Nat) (b3c : Nat) (R : Value → World → Prop) (w : World) : mfunc Try.prog [] 28 [.pointer d1, .int .i64 i2, .slice b3a b3n b3c] R w = disk_Disk_Write.M d1 i2 b3a b3n b3c R w := by kernel_rfl
theorem disk_Disk_Write.ok (d1 : Option Addr) (i2 : Int) (a2 : Option Addr) (a1 : Nat) (a0 : Nat) {R : Value → World → Prop} {w : World} (h : disk_Disk_Write.M d1 i2 a2 a1 a0 R w) : Calls Try.prog 28 #[.pointer d1, .int .i64 i2, .slice a2 a1 a0] w fun e w' => ∃ v, e = .returned v ∧ R v w' :=
  mfunc_ok follows (H := []) (args := [.pointer d1, .int .i64 i2, .slice a2 a1 a0]) (by rw [disk_Disk_Write.eq]; exact h)

def disk_Disk_Write.N (d1 : Option Addr) (i2 : Int) (b6 : Option Addr) (b1 : Nat) (b3 : Nat) (R : Value → World → Prop) (w : World) : Prop :=
 Calls Try.prog 46 #[.pointer d1, .int .i64 i2] w fun b4 az => ∃ (aj : Int), b4 = .returned (.int .i64 aj) ∧
 (aj ≠ 0 →
 R (.int .i64 aj) az) ∧
 (aj = 0 →
 ((b1 : Int) ≠ 64 →
 R (.int .i64 1) az) ∧
 ((b1 : Int) = 64 →
 ∀ (ax : World) (an : Nat), Ext no az ax → Blk ax an 90 ([.int .i64 0] ++ List.replicate 64 (.int .u8 0) ++ [.bool false]) → az.heap.size ≤ an → an < ax.heap.size →
 putsK ax (blk an) ([.int .i64 i2] ++ List.replicate 64 (.int .u8 0) ++ [.bool false]) 0 fun b2 =>
 ∃ (b5 : Int) (ah : World), (Builtin.copy_ #[23, 23] 3 #[.slice (some (if 64 = 0 then (((blk an).add 1).add 0) else (((blk an).add 1).add 0).add (0 * 1))) (64 - 0) (64 - 0), .slice b6 b1 b3]).run Try.prog b2 = .ok (.int .i64 b5) ah ∧
 ∃ a5 : Addr, d1 = some a5 ∧
 ∃ (a7 : Option Addr) (a6 : Nat) (a8 : Nat), ah.cell? (a5.add 1) = some (.slice a7 a6 a8) ∧
 ∃ b0 : Array Value, szB Try.prog 90 b0.size = true ∧ cellsAt ah (blk an) b0.toList 0 ∧
 szB Try.prog 90 b0.size = true ∧
 ∀ (ad : World) (ay : Nat), Ext no ah ad → Blk ad ay 90 b0.toList → ah.heap.size ≤ ay → ay < ad.heap.size →
 ad.cell? (a5.add 1) = some (.slice a7 a6 a8) ∧
 ∃ (av : Option Addr) (aq : Nat) (aw : Nat) (al : World), (Builtin.append_ #[76, 76] 76 #[.slice a7 a6 a8, .slice (some (blk ay)) 1 1]).run Try.prog ad = .ok (.slice av aq aw) al ∧
 canStore al ((a5.add 1).add 0) ∧
 thenW (al.setCell ((a5.add 1).add 0) (.slice av aq aw)) fun a4 =>
 ∃ (a9 : Bool), a4.cell? (a5.add 3) = some (.bool a9) ∧
 (a9 = true →
 ∃ (ac : Int), a4.cell? (a5.add 2) = some (.int .i64 ac) ∧
 (ac = 0 →
 canStore a4 ((a5.add 4).add 0) ∧
 thenW (a4.setCell ((a5.add 4).add 0) (.int .i64 1)) fun am =>
 ∃ (ab : Option Addr) (aa : Nat) (ai : Nat), am.cell? (a5.add 1) = some (.slice ab aa ai) ∧
 ∃ (ae : Option Addr) (a0 : Nat) (af : Nat), am.cell? (a5.add 1) = some (.slice ae a0 af) ∧
 (-9223372036854775808 : Int) ≤ ((a0 : Int) - 1) ∧ ((a0 : Int) - 1) < 9223372036854775808 ∧
 ∃ ak : Addr, ab = some ak ∧
 0 ≤ (((a0 : Int) - 1) : Int) ∧ (((a0 : Int) - 1) : Int) < (aa : Int) ∧
 ∀ (ao : World), Ext no am ao →
 canStore ao ((((ak.add (Int.toNat ((a0 : Int) - 1) * 66)).add 1).add 64).add 0) ∧
 thenW (ao.setCell ((((ak.add (Int.toNat ((a0 : Int) - 1) * 66)).add 1).add 64).add 0) (.bool true)) fun ap =>
 R (.int .i64 19) ap) ∧
 (ac ≠ 0 →
 ∃ (a3 : Int), a4.cell? (a5.add 2) = some (.int .i64 a3) ∧
 (-9223372036854775808 : Int) ≤ (a3 - 1) ∧ (a3 - 1) < 9223372036854775808 ∧
 canStore a4 ((a5.add 2).add 0) ∧
 thenW (a4.setCell ((a5.add 2).add 0) (.int .i64 (a3 - 1))) fun ag =>
 ∃ (a2 : Int), ag.cell? (a5.add 5) = some (.int .i64 a2) ∧
 (-9223372036854775808 : Int) ≤ (a2 + 1) ∧ (a2 + 1) < 9223372036854775808 ∧
 canStore ag ((a5.add 5).add 0) ∧
 thenW (ag.setCell ((a5.add 5).add 0) (.int .i64 (a2 + 1))) fun ar =>
 R (.int .i64 0) ar)) ∧
 (a9 = false →
 ∃ (a1 : Int), a4.cell? (a5.add 5) = some (.int .i64 a1) ∧
 (-9223372036854775808 : Int) ≤ (a1 + 1) ∧ (a1 + 1) < 9223372036854775808 ∧
 canStore a4 ((a5.add 5).add 0) ∧
 thenW (a4.setCell ((a5.add 5).add 0) (.int .i64 (a1 + 1))) fun au =>
 R (.int .i64 0) au)))

theorem disk_Disk_Write.up (d1 : Option Addr) (i2 : Int) (bi : Option Addr) (bk : Nat) (be : Nat) {R : Value → World → Prop} {w : World} (h : disk_Disk_Write.N d1 i2 bi bk be R w) : disk_Disk_Write.M d1 i2 bi bk be R w := by
  unfold disk_Disk_Write.M
  unfold disk_Disk_Write.N at h
  refine h.mono fun fr aq h => ?_
  obtain ⟨b6, he, h⟩ := h
  refine ⟨b6, he, ?_⟩
  refine bif_of (fun c7 => ?_) (fun c7 => ?_)
  · have h := h.1 (bne_t c7)
    exact h
  · have h := h.2 (bne_f c7)
    refine bif_of (fun c8 => ?_) (fun c8 => ?_)
    · have h := h.1 (bne_t c8)
      exact h
    · have h := h.2 (bne_f c8)
      refine thenW_in fun e7 e9 => ?_
      have h := h e7 aq.heap.size ((Ext.refl no aq).x_alloc e9) (Blk.of_new e9) ((Ext.refl no aq)).size (size_lt_alloc e9)
      try rw [show (([.int .i64 i2] ++ List.replicate 64 (.int .u8 0) ++ [.bool false])) = [.int .i64 i2, .int .u8 0, .int .u8 0, .int .u8 0, .int .u8 0, .int .u8 0, .int .u8 0, .int .u8 0, .int .u8 0, .int .u8 0, .int .u8 0, .int .u8 0, .int .u8 0, .int .u8 0, .int .u8 0, .int .u8 0, .int .u8 0, .int .u8 0, .int .u8 0, .int .u8 0, .int .u8 0, .int .u8 0, .int .u8 0, .int .u8 0, .int .u8 0, .int .u8 0, .int .u8 0, .int .u8 0, .int .u8 0, .int .u8 0, .int .u8 0, .int .u8 0, .int .u8 0, .int .u8 0, .int .u8 0, .int .u8 0, .int .u8 0, .int .u8 0, .int .u8 0, .int .u8 0, .int .u8 0, .int .u8 0, .int .u8 0, .int .u8 0, .int .u8 0, .int .u8 0, .int .u8 0, .int .u8 0, .int .u8 0, .int .u8 0, .int .u8 0, .int .u8 0, .int .u8 0, .int .u8 0, .int .u8 0, .int .u8 0, .int .u8 0, .int .u8 0, .int .u8 0, .int .u8 0, .int .u8 0, .int .u8 0, .int .u8 0, .int .u8 0, .int .u8 0, .bool false] from rfl] at h
      obtain ⟨hcs, h⟩ := h
      refine ⟨hcs, thenW_in fun dz et => ?_⟩
      replace h := thenW_out h et
      obtain ⟨hcs, h⟩ := h
      refine ⟨hcs, thenW_in fun cz f9 => ?_⟩
      replace h := thenW_out h f9
      obtain ⟨hcs, h⟩ := h
      refine ⟨hcs, thenW_in fun c1 ej => ?_⟩
      replace h := thenW_out h ej
      obtain ⟨hcs, h⟩ := h
      refine ⟨hcs, thenW_in fun fg d0 => ?_⟩
      replace h := thenW_out h d0
      obtain ⟨hcs, h⟩ := h
      refine ⟨hcs, thenW_in fun fj ct => ?_⟩
      replace h := thenW_out h ct
      obtain ⟨hcs, h⟩ := h
      refine ⟨hcs, thenW_in fun dc d8 => ?_⟩
      replace h := thenW_out h d8
      obtain ⟨hcs, h⟩ := h
      refine ⟨hcs, thenW_in fun c9 ec => ?_⟩
      replace h := thenW_out h ec
      obtain ⟨hcs, h⟩ := h
      refine ⟨hcs, thenW_in fun fk ch => ?_⟩
      replace h := thenW_out h ch
      obtain ⟨hcs, h⟩ := h
      refine ⟨hcs, thenW_in fun cx ek => ?_⟩
      replace h := thenW_out h ek
      obtain ⟨hcs, h⟩ := h
      refine ⟨hcs, thenW_in fun eg bn => ?_⟩
      replace h := thenW_out h bn
      obtain ⟨hcs, h⟩ := h
      refine ⟨hcs, thenW_in fun d2 c4 => ?_⟩
      replace h := thenW_out h c4
      obtain ⟨hcs, h⟩ := h
      refine ⟨hcs, thenW_in fun c0 cb => ?_⟩
      replace h := thenW_out h cb
      obtain ⟨hcs, h⟩ := h
      refine ⟨hcs, thenW_in fun em bt => ?_⟩
      replace h := thenW_out h bt
      obtain ⟨hcs, h⟩ := h
      refine ⟨hcs, thenW_in fun f5 eh => ?_⟩
      replace h := thenW_out h eh
      obtain ⟨hcs, h⟩ := h
      refine ⟨hcs, thenW_in fun ce e5 => ?_⟩
      replace h := thenW_out h e5
      obtain ⟨hcs, h⟩ := h
      refine ⟨hcs, thenW_in fun db cp => ?_⟩
      replace h := thenW_out h cp
      obtain ⟨hcs, h⟩ := h
      refine ⟨hcs, thenW_in fun e6 fd => ?_⟩
      replace h := thenW_out h fd
      obtain ⟨hcs, h⟩ := h
      refine ⟨hcs, thenW_in fun cq bv => ?_⟩
      replace h := thenW_out h bv
      obtain ⟨hcs, h⟩ := h
      refine ⟨hcs, thenW_in fun fh dh => ?_⟩
      replace h := thenW_out h dh
      obtain ⟨hcs, h⟩ := h
      refine ⟨hcs, thenW_in fun cf eu => ?_⟩
      replace h := thenW_out h eu
      obtain ⟨hcs, h⟩ := h
      refine ⟨hcs, thenW_in fun fe cd => ?_⟩
      replace h := thenW_out h cd
      obtain ⟨hcs, h⟩ := h
      refine ⟨hcs, thenW_in fun d4 bo => ?_⟩
      replace h := thenW_out h bo
      obtain ⟨hcs, h⟩ := h
      refine ⟨hcs, thenW_in fun dn f3 => ?_⟩
      replace h := thenW_out h f3
      obtain ⟨hcs, h⟩ := h
      refine ⟨hcs, thenW_in fun ea dx => ?_⟩
      replace h := thenW_out h dx
      obtain ⟨hcs, h⟩ := h
      refine ⟨hcs, thenW_in fun c5 dp => ?_⟩
      replace h := thenW_out h dp
      obtain ⟨hcs, h⟩ := h
      refine ⟨hcs, thenW_in fun cr e2 => ?_⟩
      replace h := thenW_out h e2
      obtain ⟨hcs, h⟩ := h
      refine ⟨hcs, thenW_in fun ed cv => ?_⟩
      replace h := thenW_out h cv
      obtain ⟨hcs, h⟩ := h
      refine ⟨hcs, thenW_in fun fq cj => ?_⟩
      replace h := thenW_out h cj
      obtain ⟨hcs, h⟩ := h
      refine ⟨hcs, thenW_in fun e3 bl => ?_⟩
      replace h := thenW_out h bl
      obtain ⟨hcs, h⟩ := h
      refine ⟨hcs, thenW_in fun cs dq => ?_⟩
      replace h := thenW_out h dq
      obtain ⟨hcs, h⟩ := h
      refine ⟨hcs, thenW_in fun ck ee => ?_⟩
      replace h := thenW_out h ee
      obtain ⟨hcs, h⟩ := h
      refine ⟨hcs, thenW_in fun dw f8 => ?_⟩
      replace h := thenW_out h f8
      obtain ⟨hcs, h⟩ := h
      refine ⟨hcs, thenW_in fun c3 df => ?_⟩
      replace h := thenW_out h df
      obtain ⟨hcs, h⟩ := h
      refine ⟨hcs, thenW_in fun c2 dm => ?_⟩
      replace h := thenW_out h dm
      obtain ⟨hcs, h⟩ := h
      refine ⟨hcs, thenW_in fun ds dv => ?_⟩
      replace h := thenW_out h dv
      obtain ⟨hcs, h⟩ := h
      refine ⟨hcs, thenW_in fun f6 bp => ?_⟩
      replace h := thenW_out h bp
      obtain ⟨hcs, h⟩ := h
      refine ⟨hcs, thenW_in fun ei f7 => ?_⟩
      replace h := thenW_out h f7
      obtain ⟨hcs, h⟩ := h
      refine ⟨hcs, thenW_in fun f0 bs => ?_⟩
      replace h := thenW_out h bs
      obtain ⟨hcs, h⟩ := h
      refine ⟨hcs, thenW_in fun bq d3 => ?_⟩
      replace h := thenW_out h d3
      obtain ⟨hcs, h⟩ := h
      refine ⟨hcs, thenW_in fun fa co => ?_⟩
      replace h := thenW_out h co
      obtain ⟨hcs, h⟩ := h
      refine ⟨hcs, thenW_in fun eq dr => ?_⟩
      replace h := thenW_out h dr
      obtain ⟨hcs, h⟩ := h
      refine ⟨hcs, thenW_in fun c6 d5 => ?_⟩
      replace h := thenW_out h d5
      obtain ⟨hcs, h⟩ := h
      refine ⟨hcs, thenW_in fun f4 cm => ?_⟩
      replace h := thenW_out h cm
      obtain ⟨hcs, h⟩ := h
      refine ⟨hcs, thenW_in fun bw ez => ?_⟩
      replace h := thenW_out h ez
      obtain ⟨hcs, h⟩ := h
      refine ⟨hcs, thenW_in fun bm ev => ?_⟩
      replace h := thenW_out h ev
      obtain ⟨hcs, h⟩ := h
      refine ⟨hcs, thenW_in fun e0 f1 => ?_⟩
      replace h := thenW_out h f1
      obtain ⟨hcs, h⟩ := h
      refine ⟨hcs, thenW_in fun fp d9 => ?_⟩
      replace h := thenW_out h d9
      obtain ⟨hcs, h⟩ := h
      refine ⟨hcs, thenW_in fun ew ep => ?_⟩
      replace h := thenW_out h ep
      obtain ⟨hcs, h⟩ := h
      refine ⟨hcs, thenW_in fun fb eo => ?_⟩
      replace h := thenW_out h eo
      obtain ⟨hcs, h⟩ := h
      refine ⟨hcs, thenW_in fun cn bx => ?_⟩
      replace h := thenW_out h bx
      obtain ⟨hcs, h⟩ := h
      refine ⟨hcs, thenW_in fun el cg => ?_⟩
      replace h := thenW_out h cg
      obtain ⟨hcs, h⟩ := h
      refine ⟨hcs, thenW_in fun bu dk => ?_⟩
      replace h := thenW_out h dk
      obtain ⟨hcs, h⟩ := h
      refine ⟨hcs, thenW_in fun f2 cu => ?_⟩
      replace h := thenW_out h cu
      obtain ⟨hcs, h⟩ := h
      refine ⟨hcs, thenW_in fun dl cc => ?_⟩
      replace h := thenW_out h cc
      obtain ⟨hcs, h⟩ := h
      refine ⟨hcs, thenW_in fun e1 cy => ?_⟩
      replace h := thenW_out h cy
      obtain ⟨hcs, h⟩ := h
      refine ⟨hcs, thenW_in fun fc fi => ?_⟩
      replace h := thenW_out h fi
      obtain ⟨hcs, h⟩ := h
      refine ⟨hcs, thenW_in fun dy fl => ?_⟩
      replace h := thenW_out h fl
      obtain ⟨hcs, h⟩ := h
      refine ⟨hcs, thenW_in fun dj dd => ?_⟩
      replace h := thenW_out h dd
      obtain ⟨hcs, h⟩ := h
      refine ⟨hcs, thenW_in fun es ff => ?_⟩
      replace h := thenW_out h ff
      obtain ⟨hcs, h⟩ := h
      refine ⟨hcs, thenW_in fun e4 en => ?_⟩
      replace h := thenW_out h en
      obtain ⟨hcs, h⟩ := h
      refine ⟨hcs, thenW_in fun d6 dt => ?_⟩
      replace h := thenW_out h dt
      obtain ⟨hcs, h⟩ := h
      refine ⟨hcs, thenW_in fun de eb => ?_⟩
      replace h := thenW_out h eb
      obtain ⟨hcs, h⟩ := h
      refine ⟨hcs, thenW_in fun bz du => ?_⟩
      replace h := thenW_out h du
      obtain ⟨hcs, h⟩ := h
      refine ⟨hcs, thenW_in fun d7 cl => ?_⟩
      replace h := thenW_out h cl
      obtain ⟨hcs, h⟩ := h
      refine ⟨hcs, thenW_in fun e8 ci => ?_⟩
      replace h := thenW_out h ci
      obtain ⟨hcs, h⟩ := h
      refine ⟨hcs, thenW_in fun er br => ?_⟩
      replace h := thenW_out h br
      obtain ⟨fm, ao, hr, h⟩ := h
      refine ⟨fm, ao, hr, ?_⟩
      refine thenW_in fun bc dg => ?_
      have ac := (Ext.refl no ao).x_drew dg
      obtain ⟨fs, a0, h⟩ := h
      refine elim_some a0 ?_
      obtain ⟨ab, a9, ad, b4, h⟩ := h
      refine ⟨ab, a9, ad, (ac).cell b4 id, ?_⟩
      obtain ⟨di, hz, b1, h⟩ := h
      refine ⟨di, hz, cellsAt_no (ac) b1, ?_⟩
      obtain ⟨hzl, h⟩ := h
      refine mslit_big Try.underlying76 (by kernel_rfl) hzl ?_
      refine thenW_in fun ap au => ?_
      have h := h ap bc.heap.size (ac.x_alloc au) (Blk.of_new au) (ac).size (size_lt_alloc au)
      obtain ⟨b5, h⟩ := h
      refine ⟨b5, ?_⟩
      obtain ⟨b0, aw, b8, ba, hr, h⟩ := h
      refine ⟨b0, aw, b8, ba, hr, ?_⟩
      refine elim_some a0 ?_
      obtain ⟨hcs, h⟩ := h
      refine ⟨hcs, thenW_in fun fo ef => ?_⟩
      replace h := thenW_out h ef
      refine elim_some a0 ?_
      obtain ⟨ae, ax, h⟩ := h
      refine ⟨ae, ax, ?_⟩
      refine bif_of (fun b9 => ?_) (fun b9 => ?_)
      · have h := h.1 b9
        refine elim_some a0 ?_
        obtain ⟨af, ar, h⟩ := h
        refine ⟨af, ar, ?_⟩
        refine bif_of (fun ay => ?_) (fun ay => ?_)
        · have h := h.1 (beq_t ay)
          refine elim_some a0 ?_
          obtain ⟨hcs, h⟩ := h
          refine ⟨hcs, thenW_in fun av ca => ?_⟩
          replace h := thenW_out h ca
          refine thenW_in fun bd ex => ?_
          have ah := (Ext.refl no av).x_drew ex
          refine elim_some a0 ?_
          obtain ⟨a7, a5, a3, b3, h⟩ := h
          refine ⟨a7, a5, a3, (ah).cell b3 id, ?_⟩
          refine elim_some a0 ?_
          obtain ⟨a2, a4, a1, al, h⟩ := h
          refine ⟨a2, a4, a1, (ah).cell al id, ?_⟩
          obtain ⟨ai, ag, h⟩ := h
          try rw [w64 ai ag]
          obtain ⟨ey, an, h⟩ := h
          refine elim_some an ?_
          obtain ⟨cw, da, h⟩ := h
          refine ⟨cw, da, ?_⟩
          have h := h bd ah
          obtain ⟨hcs, h⟩ := h
          refine ⟨hcs, thenW_in fun bf b2 => ?_⟩
          replace h := thenW_out h b2
          exact h
        · have h := h.2 (beq_f ay)
          refine elim_some a0 ?_
          obtain ⟨aa, am, h⟩ := h
          refine ⟨aa, am, ?_⟩
          obtain ⟨ai, ag, h⟩ := h
          try rw [w64 ai ag]
          refine elim_some a0 ?_
          obtain ⟨hcs, h⟩ := h
          refine ⟨hcs, thenW_in fun bg az => ?_⟩
          replace h := thenW_out h az
          refine elim_some a0 ?_
          obtain ⟨a6, ak, h⟩ := h
          refine ⟨a6, ak, ?_⟩
          obtain ⟨ai, ag, h⟩ := h
          try rw [w64 ai ag]
          refine elim_some a0 ?_
          obtain ⟨hcs, h⟩ := h
          refine ⟨hcs, thenW_in fun bj b7 => ?_⟩
          replace h := thenW_out h b7
          exact h
      · have h := h.2 b9
        refine elim_some a0 ?_
        obtain ⟨a8, aj, h⟩ := h
        refine ⟨a8, aj, ?_⟩
        obtain ⟨ai, ag, h⟩ := h
        try rw [w64 ai ag]
        refine elim_some a0 ?_
        obtain ⟨hcs, h⟩ := h
        refine ⟨hcs, thenW_in fun bh bb => ?_⟩
        replace h := thenW_out h bb
        exact h

theorem disk_Disk_Write.go (d1 : Option Addr) (i2 : Int) (a2 : Option Addr) (a1 : Nat) (a0 : Nat) {R : Value → World → Prop} {w : World} (h : disk_Disk_Write.N d1 i2 a2 a1 a0 R w) : Calls Try.prog 28 #[.pointer d1, .int .i64 i2, .slice a2 a1 a0] w fun e w' => ∃ v, e = .returned v ∧ R v w' := disk_Disk_Write.ok d1 i2 a2 a1 a0 (disk_Disk_Write.up d1 i2 a2 a1 a0 h)
theorem disk_Disk_Write.run (d1 : Option Addr) (i2 : Int) (a2 : Option Addr) (a1 : Nat) (a0 : Nat) {V : Value} {Q : World → Prop} {w : World} (h : disk_Disk_Write.N d1 i2 a2 a1 a0 (fun v w' => v = V ∧ Q w') w) : Calls Try.prog 28 #[.pointer d1, .int .i64 i2, .slice a2 a1 a0] w (Ret V Q) := (disk_Disk_Write.go d1 i2 a2 a1 a0 h).mono fun e w' ⟨v, he, hv, hq⟩ => ⟨by rw [he, hv], hq⟩

end Go.Proofs.Ytgcjipbahfpopaa

/- Disk: predicates, the others. -/
set_option linter.unusedVariables false
set_option linter.unusedSimpArgs false
set_option maxRecDepth 20000
set_option maxHeartbeats 2000000
namespace Go.Proofs.Ytgcjipbahfpopaa
open Go Go.Mx Go.Proofs
/-- (*disk.Disk).Sync -/
def disk_Disk_Sync.M (d1 : Option Addr) (R : Value → World → Prop) (w : World) : Prop :=
 Calls Try.prog 43 #[.pointer d1] w fun a2 a1 => ∃ (a0 : Int), a2 = .returned (.int .i64 a0) ∧
 bif a0 != 0 then (
 R (.int .i64 a0) a1) else (
 Calls Try.prog 45 #[.pointer d1, .func (.func 47) #[] #[]] a1 fun a4 a3 => a4 = .returned (.tuple #[]) ∧
 R (.int .i64 0) a3)

theorem disk_Disk_Sync.eq (d1 : Option Addr) (R : Value → World → Prop) (w : World) : mfunc Try.prog [] 29 [.pointer d1] R w = disk_Disk_Sync.M d1 R w := by kernel_rfl
theorem disk_Disk_Sync.ok (d1 : Option Addr) {R : Value → World → Prop} {w : World} (h : disk_Disk_Sync.M d1 R w) : Calls Try.prog 29 #[.pointer d1] w fun e w' => ∃ v, e = .returned v ∧ R v w' :=
  mfunc_ok follows (H := []) (args := [.pointer d1]) (by rw [disk_Disk_Sync.eq]; exact h)

def disk_Disk_Sync.N (d1 : Option Addr) (R : Value → World → Prop) (w : World) : Prop :=
 Calls Try.prog 43 #[.pointer d1] w fun a3 a1 => ∃ (a0 : Int), a3 = .returned (.int .i64 a0) ∧
 (a0 ≠ 0 →
 R (.int .i64 a0) a1) ∧
 (a0 = 0 →
 Calls Try.prog 45 #[.pointer d1, .func (.func 47) #[] #[]] a1 fun a2 a4 => a2 = .returned (.tuple #[]) ∧
 R (.int .i64 0) a4)

theorem disk_Disk_Sync.up (d1 : Option Addr) {R : Value → World → Prop} {w : World} (h : disk_Disk_Sync.N d1 R w) : disk_Disk_Sync.M d1 R w := by
  unfold disk_Disk_Sync.M
  unfold disk_Disk_Sync.N at h
  refine h.mono fun a2 a3 h => ?_
  obtain ⟨a0, he, h⟩ := h
  refine ⟨a0, he, ?_⟩
  refine bif_of (fun c5 => ?_) (fun c5 => ?_)
  · have h := h.1 (bne_t c5)
    exact h
  · have h := h.2 (bne_f c5)
    refine h.mono fun a1 a4 h => ?_
    obtain ⟨he, h⟩ := h
    refine ⟨he, ?_⟩
    exact h

theorem disk_Disk_Sync.go (d1 : Option Addr) {R : Value → World → Prop} {w : World} (h : disk_Disk_Sync.N d1 R w) : Calls Try.prog 29 #[.pointer d1] w fun e w' => ∃ v, e = .returned v ∧ R v w' := disk_Disk_Sync.ok d1 (disk_Disk_Sync.up d1 h)
theorem disk_Disk_Sync.run (d1 : Option Addr) {V : Value} {Q : World → Prop} {w : World} (h : disk_Disk_Sync.N d1 (fun v w' => v = V ∧ Q w') w) : Calls Try.prog 29 #[.pointer d1] w (Ret V Q) := (disk_Disk_Sync.go d1 h).mono fun e w' ⟨v, he, hv, hq⟩ => ⟨by rw [he, hv], hq⟩

/-- (*disk.Disk).Sync$1 -/
def disk_Disk_Sync_1.M (p1 : Int) (R : Value → World → Prop) (w : World) : Prop :=
 R (.bool true) w

theorem disk_Disk_Sync_1.eq (p1 : Int) (R : Value → World → Prop) (w : World) : mfunc Try.prog [] 47 [.int .i64 p1] R w = disk_Disk_Sync_1.M p1 R w := by kernel_rfl
theorem disk_Disk_Sync_1.ok (p1 : Int) {R : Value → World → Prop} {w : World} (h : disk_Disk_Sync_1.M p1 R w) : Calls Try.prog 47 #[.int .i64 p1] w fun e w' => ∃ v, e = .returned v ∧ R v w' :=
  mfunc_ok follows (H := []) (args := [.int .i64 p1]) (by rw [disk_Disk_Sync_1.eq]; exact h)

def disk_Disk_Sync_1.N (p1 : Int) (R : Value → World → Prop) (w : World) : Prop :=
 R (.bool true) w

theorem disk_Disk_Sync_1.up (p1 : Int) {R : Value → World → Prop} {w : World} (h : disk_Disk_Sync_1.N p1 R w) : disk_Disk_Sync_1.M p1 R w := by
  unfold disk_Disk_Sync_1.M
  unfold disk_Disk_Sync_1.N at h
  exact h

theorem disk_Disk_Sync_1.go (p1 : Int) {R : Value → World → Prop} {w : World} (h : disk_Disk_Sync_1.N p1 R w) : Calls Try.prog 47 #[.int .i64 p1] w fun e w' => ∃ v, e = .returned v ∧ R v w' := disk_Disk_Sync_1.ok p1 (disk_Disk_Sync_1.up p1 h)
theorem disk_Disk_Sync_1.run (p1 : Int) {V : Value} {Q : World → Prop} {w : World} (h : disk_Disk_Sync_1.N p1 (fun v w' => v = V ∧ Q w') w) : Calls Try.prog 47 #[.int .i64 p1] w (Ret V Q) := (disk_Disk_Sync_1.go p1 h).mono fun e w' ⟨v, he, hv, hq⟩ => ⟨by rw [he, hv], hq⟩

/-- (*disk.Disk).Down -/
def disk_Disk_Down.M (d1 : Option Addr) (R : Value → World → Prop) (w : World) : Prop :=
 bif !(Option.isNone d1) then (
 d1.elim False fun a2 =>
 ∃ (a0 : Int), w.cell? (a2.add 4) = some (.int .i64 a0) ∧
 R (.bool (a0 == 1)) w) else (
 R (.bool false) w)

theorem disk_Disk_Down.eq (d1 : Option Addr) (R : Value → World → Prop) (w : World) : mfunc Try.prog [] 24 [.pointer d1] R w = disk_Disk_Down.M d1 R w := by kernel_rfl
theorem disk_Disk_Down.ok (d1 : Option Addr) {R : Value → World → Prop} {w : World} (h : disk_Disk_Down.M d1 R w) : Calls Try.prog 24 #[.pointer d1] w fun e w' => ∃ v, e = .returned v ∧ R v w' :=
  mfunc_ok follows (H := []) (args := [.pointer d1]) (by rw [disk_Disk_Down.eq]; exact h)

def disk_Disk_Down.N (d1 : Option Addr) (R : Value → World → Prop) (w : World) : Prop :=
 (d1 ≠ none →
 ∃ a3 : Addr, d1 = some a3 ∧
 ∃ (a0 : Int), w.cell? (a3.add 4) = some (.int .i64 a0) ∧
 R (.bool (a0 == 1)) w) ∧
 (d1 = none →
 R (.bool false) w)

theorem disk_Disk_Down.up (d1 : Option Addr) {R : Value → World → Prop} {w : World} (h : disk_Disk_Down.N d1 R w) : disk_Disk_Down.M d1 R w := by
  unfold disk_Disk_Down.M
  unfold disk_Disk_Down.N at h
  refine bif_of (fun c2 => ?_) (fun c2 => ?_)
  · have h := h.1 (isNone_f (not_t c2))
    obtain ⟨a3, a1, h⟩ := h
    refine elim_some a1 ?_
    obtain ⟨a0, a2, h⟩ := h
    refine ⟨a0, a2, ?_⟩
    exact h
  · have h := h.2 (isNone_t (not_f c2))
    exact h

theorem disk_Disk_Down.go (d1 : Option Addr) {R : Value → World → Prop} {w : World} (h : disk_Disk_Down.N d1 R w) : Calls Try.prog 24 #[.pointer d1] w fun e w' => ∃ v, e = .returned v ∧ R v w' := disk_Disk_Down.ok d1 (disk_Disk_Down.up d1 h)
theorem disk_Disk_Down.run (d1 : Option Addr) {V : Value} {Q : World → Prop} {w : World} (h : disk_Disk_Down.N d1 (fun v w' => v = V ∧ Q w') w) : Calls Try.prog 24 #[.pointer d1] w (Ret V Q) := (disk_Disk_Down.go d1 h).mono fun e w' ⟨v, he, hv, hq⟩ => ⟨by rw [he, hv], hq⟩

end Go.Proofs.Ytgcjipbahfpopaa

/- Disk: sectors and writes as lists; a disk in memory; what the small functions answer. -/
set_option linter.unusedVariables false
set_option linter.unusedSimpArgs false
set_option maxRecDepth 20000
set_option maxHeartbeats 4000000
namespace Go.Proofs.Ytgcjipbahfpopaa
open Go Go.Mx Go.Proofs
open W (OwnB)
theorem inf88 : (Try.prog.info? 88).map (fun i => (i.zero, i.size, i.bytes)) = some (some (.agg (List.toArray (List.replicate 64 (.int .u8 0) ++ [.bool false]))), 65, 65) := by kernel_rfl
theorem inf90 : (Try.prog.info? 90).map (fun i => (i.zero, i.size, i.bytes)) = some (some (.agg (List.toArray ([.int .i64 0] ++ List.replicate 64 (.int .u8 0) ++ [.bool false]))), 66, 80) := by kernel_rfl
/-- a sector. -/
structure Sec where
  b : List UInt8
  torn : Bool
  h : b.length = 64
def Sec.C (s : Sec) : List Value := bytesV s.b ++ [.bool s.torn]
theorem bytesV_length (b : List UInt8) : (bytesV b).length = b.length := by unfold bytesV; simp
theorem Sec.len (s : Sec) : s.C.length = 65 := by unfold Sec.C; rw [List.length_append, bytesV_length, s.h]; rfl
def Sec.z : Sec := ⟨List.replicate 64 0, false, by simp⟩
/-- a write that is pending. -/
structure Wt where
  i : Int
  s : Sec
def Wt.C (x : Wt) : List Value := .int .i64 x.i :: x.s.C
theorem Wt.len (x : Wt) : x.C.length = 66 := by unfold Wt.C; rw [List.length_cons, x.s.len]
theorem bytesV_one {b : List UInt8} : ∀ u ∈ bytesV b, u.oneCell' = true := fun u hu => by
  unfold bytesV at hu
  obtain ⟨x, _, rfl⟩ := List.mem_map.1 hu
  rfl
theorem Sec.one (s : Sec) : ∀ u ∈ s.C, u.oneCell' = true := fun u hu => by
  rcases List.mem_append.1 hu with h | h
  · exact bytesV_one u h
  · simp at h; subst h; rfl
theorem Wt.one (x : Wt) : ∀ u ∈ x.C, u.oneCell' = true := fun u hu => by
  rcases List.mem_cons.1 hu with rfl | h
  · rfl
  · exact x.s.one u h
theorem sz65 : szB Try.prog 88 65 = true := by kernel_rfl
theorem sz66 : szB Try.prog 90 66 = true := by kernel_rfl
/-- a disk. -/
structure DS where
  good : List Sec
  pend : List Wt
  left : Int
  armed : Bool
  down : Bool
  count : Int
def stI (b : Bool) : Int := if b then 1 else 0
def DS.V (d : DS) (ga : Option Addr) (gc : Nat) (pa : Option Addr) (pc : Nat) : List Value := [.slice ga d.good.length gc, .slice pa d.pend.length pc, .int .i64 d.left, .bool d.armed, .int .i64 (stI d.down), .int .i64 d.count]
abbrev SRw (w : World) (o : Own) (g : Nat) (a : Option Addr) (c : Nat) (l : List Sec) : Prop := Grows 88 65 w o g a l.length c (l.flatMap Sec.C)
abbrev WRw (w : World) (o : Own) (g : Nat) (a : Option Addr) (c : Nat) (l : List Wt) : Prop := Grows 90 66 w o g a l.length c (l.flatMap Wt.C)
/-- a disk in memory, with all that is its own. -/
structure DG (w : World) (o : Own) (g : Nat) (d : DS) : Prop where
  mem : ∃ ga gc pa pc, Blk w g 79 (d.V ga gc pa pc) ∧ SRw w o g ga gc d.good ∧ WRw w o g pa pc d.pend
  tg : o g = some g
structure DS.ok (d : DS) (m : Nat) : Prop where
  n1 : 1 ≤ d.good.length
  n2 : d.good.length ≤ 400
  at_ : ∀ x ∈ d.pend, 0 ≤ x.i ∧ x.i < d.good.length
  pl : d.pend.length ≤ m
  cl : 0 ≤ d.count ∧ d.count ≤ m
  left : 0 ≤ d.left ∧ d.left < 9223372036854775808
def isD (d : DS) : Int := if d.down then 19 else 0
def hasD (d : DS) (i : Int) : Int := if d.down then 19 else if i < 0 ∨ (d.good.length : Int) ≤ i then 2 else 0
def lastP (i : Int) : Sec → List Wt → Sec
  | s, [] => s
  | s, x :: r => lastP i (if x.i = i then x.s else s) r
def readS (d : DS) (i : Int) : Sec := lastP i (d.good[i.toNat]?.getD Sec.z) d.pend
def readD (d : DS) (i : Int) : List UInt8 × Int := if hasD d i = 0 then (if (readS d i).torn then ([], 5) else ((readS d i).b, 0)) else ([], hasD d i)
def writeD (d : DS) (i : Int) (b : List UInt8) : DS × Int :=
  if hasD d i = 0 then
    (if h : b.length = 64 then
      (if d.armed then
        (if d.left = 0 then ({ d with pend := d.pend ++ [⟨i, ⟨b, true, h⟩⟩], down := true }, 19)
         else ({ d with pend := d.pend ++ [⟨i, ⟨b, false, h⟩⟩], left := d.left - 1, count := d.count + 1 }, 0))
       else ({ d with pend := d.pend ++ [⟨i, ⟨b, false, h⟩⟩], count := d.count + 1 }, 0))
     else (d, 1))
  else (d, hasD d i)
def settleL (k : Nat → Bool) : Nat → List Sec → List Wt → List Sec
  | _, g, [] => g
  | t, g, x :: r => settleL k (t + 1) (if k t then g.set x.i.toNat x.s else g) r
def settleD (d : DS) (k : Nat → Bool) : DS := { d with good := settleL k 0 d.good d.pend, pend := [] }
def syncD (d : DS) : DS × Int := if d.down then (d, 19) else (settleD d fun _ => true, 0)
def keepF (l : List Bool) (t : Nat) : Bool := l[t]?.getD false
section
variable {K : Nat → Prop} {w w' w1 : World} {o o' o1 : Own} {g g2 : Nat} {d : DS} {i : Int}
theorem DG.step (h : DG w o g d) (s : Step K w o w' o') (hk : ¬ K g) : DG w' o' g d := by
  obtain ⟨⟨ga, gc, pa, pc, hb, hg, hp⟩, tg⟩ := h
  exact ⟨⟨ga, gc, pa, pc, s.blk hb tg hk, hg.step s hk, hp.step s hk⟩, by rw [s.own hb.lt]; exact tg⟩
theorem DG.lt (h : DG w o g d) : g < w.heap.size := by
  obtain ⟨⟨ga, gc, pa, pc, hb, hg, hp⟩, tg⟩ := h
  exact hb.lt
/-- the disk's numbers turned. -/
theorem DG.turn {ga pa : Option Addr} {gc pc : Nat} {d2 : DS} {cs0 : List Value} (hg : SRw w o g ga gc d2.good) (hp : WRw w o g pa pc d2.pend) (tg : o g = some g) (hb0 : Blk w g 79 cs0) (ok : Tags w o) (X : Ext (fun b => b = g) w w')
    (hb : Blk w' g 79 (d2.V ga gc pa pc)) : Step (fun j => j = g) w o w' (grow w o) ∧ DG w' (grow w o) g d2 := by
  have s : Step (fun j => j = g) w o w' (grow w o) := Step.of_ext X ok fun b hb _ => by subst hb; exact tg
  refine ⟨s, ⟨ga, gc, pa, pc, hb, ?_, ?_⟩, by rw [s.own hb0.lt]; exact tg⟩
  · exact hg.keep X (hg.ne hb0 (by decide)) fun b hb => s.own hb
  · exact hp.keep X (hp.ne hb0 (by decide)) fun b hb => s.own hb
theorem is_spec (h : DG w o g d) : Calls Try.prog 43 #[.pointer (some (blk g))] w (Ret (.int .i64 (isD d)) fun w' => w' = w) := by
  obtain ⟨⟨ga, gc, pa, pc, hb, hg, hp⟩, tg⟩ := h
  refine disk_Disk_is.run _ ?_
  unfold disk_Disk_is.N
  refine ⟨fun h => (by cases h), fun _ => ⟨_, rfl, stI d.down, hb.celli 4 rfl rfl, fun h => ⟨?_, rfl⟩, fun h => ⟨?_, rfl⟩⟩⟩
  all_goals unfold stI at h; unfold isD
  · cases hd : d.down
    · rw [hd] at h; cases h
    · rfl
  · cases hd : d.down
    · rfl
    · rw [hd] at h; exact absurd rfl h
theorem has_spec (h : DG w o g d) (i : Int) : Calls Try.prog 46 #[.pointer (some (blk g)), .int .i64 i] w (Ret (.int .i64 (hasD d i)) fun w' => w' = w) := by
  refine disk_Disk_has.run _ _ ?_
  unfold disk_Disk_has.N
  refine (is_spec h).mono fun e w5 ⟨he, hw⟩ => ⟨_, he, fun hn => ?_, fun h0 => ?_⟩
  · subst hw
    refine ⟨?_, rfl⟩
    unfold isD at hn ⊢; unfold hasD
    cases hd : d.down
    · rw [hd] at hn; exact absurd rfl hn
    · rfl
  · subst hw
    have hd : d.down = false := by
      unfold isD at h0
      cases hd : d.down
      · rfl
      · rw [hd] at h0; cases h0
    obtain ⟨⟨ga, gc, pa, pc, hb, hg, hp⟩, tg⟩ := h
    unfold hasD
    rw [hd]
    refine ⟨fun hi => ⟨?_, rfl⟩, fun hi => ⟨_, rfl, ga, _, gc, hb.celli 0 rfl rfl, fun hn => ⟨?_, rfl⟩, fun hn => ⟨?_, rfl⟩⟩⟩
    · rw [if_neg (by decide), if_pos (.inl hi)]
    · rw [if_neg (by decide), if_pos (.inr hn)]
    · rw [if_neg (by decide), if_neg (by omega)]
theorem Down_spec (h : DG w o g d) : Calls Try.prog 24 #[.pointer (some (blk g))] w (Ret (.bool d.down) fun w' => w' = w) := by
  obtain ⟨⟨ga, gc, pa, pc, hb, hg, hp⟩, tg⟩ := h
  refine disk_Disk_Down.run _ ?_
  unfold disk_Disk_Down.N
  refine ⟨fun _ => ⟨_, rfl, stI d.down, hb.celli 4 rfl rfl, ?_, rfl⟩, fun h => (by cases h)⟩
  unfold stI
  cases d.down <;> rfl
theorem Sectors_spec (h : DG w o g d) : Calls Try.prog 53 #[.pointer (some (blk g))] w (Ret (.int .i64 d.good.length) fun w' => w' = w) := by
  obtain ⟨⟨ga, gc, pa, pc, hb, hg, hp⟩, tg⟩ := h
  refine disk_Disk_Sectors.run _ ?_
  unfold disk_Disk_Sectors.N
  exact ⟨fun h => (by cases h), fun _ => ⟨_, rfl, ga, _, gc, hb.celli 0 rfl rfl, rfl, rfl⟩⟩
end
end Go.Proofs.Ytgcjipbahfpopaa

/- Disk: Read and Write. -/
set_option linter.unusedVariables false
set_option linter.unusedSimpArgs false
set_option maxRecDepth 20000
set_option maxHeartbeats 4000000
namespace Go.Proofs.Ytgcjipbahfpopaa
open Go Go.Mx Go.Proofs
open W (OwnB)
theorem inf5 : (Try.prog.info? 5).map (fun i => (i.zero, i.size, i.bytes)) = some (some (.int .u8 0), 1, 1) := by kernel_rfl
section
variable {K : Nat → Prop} {w w' w1 : World} {o o' o1 : Own} {g g2 m : Nat} {d : DS} {i : Int}
/-- bytes that are read: a fresh array, the reader's. -/
def RdD (w : World) (o : Own) (r : List UInt8 × Int) (a : Option Addr) (n c : Nat) (w' : World) (o' : Own) : Prop :=
  n = r.1.length ∧ n ≤ c ∧ Step no w o w' o' ∧ (r.2 ≠ 0 → a = none ∧ r.1 = []) ∧ (r.2 = 0 → ∃ q t, a = some (blk q) ∧ Blk w' q 88 (bytesV r.1 ++ [.bool t]) ∧ r.1.length = 64 ∧ w.heap.size ≤ q ∧ o' q = some q)
theorem lastP_snoc (i : Int) (x : Wt) : ∀ (l : List Wt) (s : Sec), lastP i s (l ++ [x]) = if x.i = i then x.s else lastP i s l
  | [], _ => rfl
  | y :: r, s => lastP_snoc i x r _
theorem hasD_0 (h : hasD d i = 0) : d.down = false ∧ 0 ≤ i ∧ i < d.good.length := by
  unfold hasD at h
  cases hd : d.down
  · rw [hd, if_neg (by decide)] at h
    by_cases hi : i < 0 ∨ (d.good.length : Int) ≤ i
    · rw [if_pos hi] at h; cases h
    · exact ⟨rfl, by omega, by omega⟩
  · rw [hd, if_pos rfl] at h; cases h
theorem Sec.arr (s : Sec) : szB Try.prog 88 s.C.toArray.size = true := by rw [List.size_toArray, s.len]; exact sz65
theorem Wt.arr (x : Wt) : szB Try.prog 90 x.C.toArray.size = true := by rw [List.size_toArray, x.len]; exact sz66
theorem setAll_all {vs cs : List Value} (h : vs.length = cs.length) : setAll cs 0 vs = vs := by
  have := setAll_head (cs := []) h
  simpa using this
/-- a whole value stored into a block of its size. -/
theorem stores_all {q : Nat} {t : TypeId} {cs vs : List Value} {Φ : World → Prop} (hb : Blk w q t cs) (hl : vs.length = cs.length) (h1 : ∀ v ∈ vs, v.oneCell' = true) (h : ∀ w', Ext (fun b => b = q) w w' → Blk w' q t vs → Φ w') : storesK (blk q) vs 0 w Φ := by
  have := storesK_blk (k := 0) (j := 0) hb (vs := vs) (by omega) h1 (Φ := Φ) fun w' X hb' => h w' X (by rwa [Nat.zero_add, setAll_all hl] at hb')
  exact this
theorem dRead_spec (h : DG w o g d) (ok : Tags w o) (i : Int) (hpl : d.pend.length < 1000000) :
    Calls Try.prog 50 #[.pointer (some (blk g)), .int .i64 i] w (fun x w' => ∃ a n c o', x = .returned (.tuple #[.slice a n c, .int .i64 (readD d i).2]) ∧ RdD w o (readD d i) a n c w' o') := by
  refine (disk_Disk_Read.go _ _ (R := fun v w' => ∃ a n c o', v = (.tuple #[.slice a n c, .int .i64 (readD d i).2]) ∧ RdD w o (readD d i) a n c w' o') ?_).mono fun x w' ⟨v, he, a, n, c, o', hv, hR⟩ => ⟨a, n, c, o', by rw [he, hv], hR⟩
  unfold disk_Disk_Read.N
  refine (has_spec h i).mono fun e w5 ⟨he, hw⟩ => ⟨_, he, fun hn => ?_, fun h0 => ?_⟩
  · subst hw
    unfold readD
    rw [if_neg hn]
    exact ⟨none, 0, 0, o, rfl, rfl, Nat.le_refl _, Step.refl _ ok, fun _ => ⟨rfl, rfl⟩, fun h => absurd h hn⟩
  subst hw
  obtain ⟨hd, hi0, hi1⟩ := hasD_0 h0
  have h' := h
  obtain ⟨⟨ga, gc, pa, pc, hb, hg, hp⟩, tg⟩ := h
  have hgt : d.good[i.toNat]? = some d.good[i.toNat] := List.getElem?_eq_getElem (by omega)
  have hrd : readS d i = lastP i (d.good[i.toNat]'(by omega)) d.pend := by unfold readS; rw [hgt]; rfl
  generalize hs0 : d.good[i.toNat]'(by omega) = s0 at *
  have hgr := hg.row
  obtain ⟨ad, rfl⟩ := hgr.faddr Sec.len (by decide) (i := i.toNat) (by omega)
  refine ⟨_, rfl, some ad, _, gc, hb.celli 0 rfl rfl, ad, rfl, hi0, hi1, s0.C.toArray, s0.arr, hgr.floads Sec.len hgt, fun w13 q14 X13 hb13 hq hq' => ⟨s0.arr, stores_all hb13 (by rw [s0.len]; simp) s0.one fun w15 X15 hb15 => ?_⟩⟩
  have s13 := (Step.of_no X13 ok).tag (j := q14) hq hq'
  have M13 : Mine [q14] w13 (tag (grow w5 o) q14 q14) := fun p hp => by rw [show p = q14 by simpa using hp]; exact ⟨hq', tag_self⟩
  have s15' := Step.stores X15 s13.ok M13 (by simp)
  have s15 : Step no w5 o w15 _ := s13.trans' s15' fun j hj => .inr (by simp at hj; omega)
  have hbk : ∀ {w1 : World} {o1 : Own}, Step no w5 o w1 o1 → Blk w1 g 79 (d.V (some ad) gc pa pc) := fun s => s.blk hb tg id
  refine ⟨pa, _, pc, (hbk s15).celli 1 rfl rfl, fun k vs w1 => ∃ (t : Nat) (o1 : Own), vs = [.int .i64 t] ∧ k + t = d.pend.length ∧ Step no w5 o w1 o1 ∧ Mine [q14] w1 o1 ∧ Blk w1 q14 88 (lastP i s0 (d.pend.take t)).C, d.pend.length, ⟨0, _, rfl, rfl, s15, M13.step s15', hb15⟩, ?_⟩
  rintro k w21 t0 ⟨t, o21, hi, hk, s21, M21, hb21⟩
  simp only [List.cons.injEq, Value.int.injEq, true_and, and_true] at hi
  subst hi
  refine ⟨fun ht => ?_, fun ht => ?_⟩
  · have htl : t < d.pend.length := by omega
    have hgp : d.pend[t]? = some d.pend[t] := List.getElem?_eq_getElem htl
    have htk : d.pend.take (t + 1) = d.pend.take t ++ [d.pend[t]] := by rw [List.take_add_one, hgp]; rfl
    generalize d.pend[t] = x at *
    have hpr := (hp.step s21 id).row
    obtain ⟨pd, rfl⟩ := hpr.faddr Wt.len (by decide) htl
    refine ⟨pd, rfl, by omega, by omega, x.C.toArray, x.arr, by rw [Int.toNat_natCast]; exact hpr.floads Wt.len hgp, fun w26 q27 X26 hb26 hq2 hq2' => ⟨x.arr, stores_all hb26 (by rw [x.len]; simp) x.one fun w28 X28 hb28 => ?_⟩⟩
    have s26 := (Step.of_no X26 s21.ok).tag (j := q27) hq2 hq2'
    have M26 : Mine [q27] w26 (tag (grow w21 o21) q27 q27) := fun p hp => by rw [show p = q27 by simpa using hp]; exact ⟨hq2', tag_self⟩
    have s28' := Step.stores X28 s26.ok M26 (by simp)
    have s28 : Step no w21 o21 w28 _ := s26.trans' s28' fun j hj => .inr (by simp at hj; omega)
    have hq14 := M21.lt (p := q14) (by simp)
    have M28 := M21.step s28
    have hb14 := s28.blk hb21 (M21 q14 (by simp)).2 id
    have s528 := s21.trans s28
    refine ⟨x.i, hb28.celli 0 rfl rfl, fun hxi => ⟨x.s.C.toArray, x.s.arr, ?_, x.s.arr, stores_all hb14 (by rw [x.s.len, Sec.len]) x.s.one fun w34 X34 hb34 => ⟨by omega, by omega, ?_⟩⟩, fun hxi => ⟨by omega, by omega, k - 1, by omega, t + 1, _, rfl, by omega, s528, M28, ?_⟩⟩
    · exact cellsAt_blk hb28 _ 0 fun n v hv => by rw [show 1 + 0 + n = n + 1 by omega]; exact hv
    · have s34' := Step.stores X34 s528.ok M28 (by simp)
      exact ⟨k - 1, by omega, t + 1, _, rfl, by omega, s528.trans' s34' fun j hj => .inr (by simp at hj; omega), M28.step s34', by rw [htk, lastP_snoc, if_pos hxi]; exact hb34⟩
    · rw [htk, lastP_snoc, if_neg hxi]; exact hb14
  · rw [List.take_of_length_le (by omega), ← hrd] at hb21
    have hcell : w21.cell? ((blk q14).add 64) = some (.bool (readS d i).torn) := hb21.celli 64 rfl (by
      unfold Sec.C
      rw [List.getElem?_append_right (by rw [bytesV_length, (readS d i).h]; omega), bytesV_length, (readS d i).h]; rfl)
    refine ⟨_, hcell, fun htn => ?_, fun htn => ?_⟩
    · unfold readD
      rw [if_pos h0, if_pos htn]
      exact ⟨none, 0, 0, o21, rfl, rfl, Nat.le_refl _, s21, fun _ => ⟨rfl, rfl⟩, fun h => absurd h (by decide)⟩
    · unfold readD
      rw [if_pos h0, if_neg (by rw [htn]; decide)]
      exact ⟨some (blk q14), 64, 64, o21, rfl, (readS d i).h.symm, Nat.le_refl _, s21, fun h => absurd rfl h, fun _ => ⟨q14, _, rfl, hb21, (readS d i).h, hq, (M21 q14 (by simp)).2⟩⟩
end
end Go.Proofs.Ytgcjipbahfpopaa
