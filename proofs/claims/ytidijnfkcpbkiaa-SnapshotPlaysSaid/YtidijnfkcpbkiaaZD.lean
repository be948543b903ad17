/- Snapshot: predicates. -/
import Derived.Test.YtidijnfkcpbkiaaZC
set_option linter.unusedVariables false
set_option linter.unusedSimpArgs false
set_option maxRecDepth 100000
set_option maxHeartbeats 4000000
namespace Go.Proofs.Ytidijnfkcpbkiaa
open Go Go.Mx Go.Proofs
/-- snapshot.which -/
def snapshot_which.M (n1 : Int) (R : Value → World → Prop) (w : World) : Prop :=
 R (.int .i64 (IntKind.i64.wrap ((BitVec.ofInt (IntKind.bits .i64) (IntKind.i64.wrap (IntKind.u32.wrap (n1 + 1))) &&& BitVec.ofInt (IntKind.bits .i64) 1).toNat))) w

theorem snapshot_which.eq (n1 : Int) (R : Value → World → Prop) (w : World) : mfunc Try.prog [] 35 [.int .u32 n1] R w = snapshot_which.M n1 R w := by kernel_rfl
theorem snapshot_which.ok (n1 : Int) {R : Value → World → Prop} {w : World} (h : snapshot_which.M n1 R w) : Calls Try.prog 35 #[.int .u32 n1] w fun e w' => ∃ v, e = .returned v ∧ R v w' :=
  mfunc_ok follows (H := []) (args := [.int .u32 n1]) (by rw [snapshot_which.eq]; exact h)

def snapshot_which.N (n1 : Int) (R : Value → World → Prop) (w : World) : Prop :=
 (-9223372036854775808 : Int) ≤ (IntKind.u32.wrap (n1 + 1)) ∧ (IntKind.u32.wrap (n1 + 1)) < 9223372036854775808 ∧
 R (.int .i64 (IntKind.i64.wrap ((BitVec.ofInt (IntKind.bits .i64) (IntKind.u32.wrap (n1 + 1)) &&& BitVec.ofInt (IntKind.bits .i64) 1).toNat))) w

theorem snapshot_which.up (n1 : Int) {R : Value → World → Prop} {w : World} (h : snapshot_which.N n1 R w) : snapshot_which.M n1 R w := by
  unfold snapshot_which.M
  unfold snapshot_which.N at h
  obtain ⟨a0, a1, h⟩ := h
  try rw [w64 a0 a1]
  exact h

theorem snapshot_which.go (n1 : Int) {R : Value → World → Prop} {w : World} (h : snapshot_which.N n1 R w) : Calls Try.prog 35 #[.int .u32 n1] w fun e w' => ∃ v, e = .returned v ∧ R v w' := snapshot_which.ok n1 (snapshot_which.up n1 h)
theorem snapshot_which.run (n1 : Int) {V : Value} {Q : World → Prop} {w : World} (h : snapshot_which.N n1 (fun v w' => v = V ∧ Q w') w) : Calls Try.prog 35 #[.int .u32 n1] w (Ret V Q) := (snapshot_which.go n1 h).mono fun e w' ⟨v, he, hv, hq⟩ => ⟨by rw [he, hv], hq⟩

/-- snapshot.head -/
def snapshot_head.M (n1 : Int) (R : Value → World → Prop) (w : World) : Prop :=
 ∃ (a2 : Option Addr) (a1 : Nat) (ah : Nat) (ab : World), (Instr.makeSlice 30 (.int .i64 64) (.int .i64 64)).run Try.prog w = .ok (.slice a2 a1 ah) ab ∧
 ∃ (I0 : Nat → List Value → World → Prop) (m5 : Nat), I0 m5 [.int .i64 0] ab ∧ ∀ (m6 : Nat) (a0 : World) (t4 : Int), I0 m6 [.int .i64 t4] a0 →
 bif decide (t4 < 4) then (
 0 ≤ (t4 : Int) ∧ (t4 : Int) < (4 : Int) ∧
 ((t4 : Int) = 0 → 
 0 ≤ (24 : Int) ∧
 a2.elim False fun a8 =>
 0 ≤ ((IntKind.i64.wrap ((1 : Int) + t4)) : Int) ∧ ((IntKind.i64.wrap ((1 : Int) + t4)) : Int) < (a1 : Int) ∧
 canStore a0 ((a8.add (Int.toNat (IntKind.i64.wrap ((1 : Int) + t4)) * 1)).add 0) ∧
 thenW (a0.setCell ((a8.add (Int.toNat (IntKind.i64.wrap ((1 : Int) + t4)) * 1)).add 0) (.int .u8 (IntKind.u8.wrap (Int.fdiv n1 (2 ^ (min (Int.toNat 24) (IntKind.bits .u32))))))) fun ai =>
 ∃ aa, aa < m6 ∧ I0 aa [.int .i64 (IntKind.i64.wrap (t4 + 1))] ai) ∧
 ((t4 : Int) = 1 → 
 0 ≤ (16 : Int) ∧
 a2.elim False fun a7 =>
 0 ≤ ((IntKind.i64.wrap ((1 : Int) + t4)) : Int) ∧ ((IntKind.i64.wrap ((1 : Int) + t4)) : Int) < (a1 : Int) ∧
 canStore a0 ((a7.add (Int.toNat (IntKind.i64.wrap ((1 : Int) + t4)) * 1)).add 0) ∧
 thenW (a0.setCell ((a7.add (Int.toNat (IntKind.i64.wrap ((1 : Int) + t4)) * 1)).add 0) (.int .u8 (IntKind.u8.wrap (Int.fdiv n1 (2 ^ (min (Int.toNat 16) (IntKind.bits .u32))))))) fun a5 =>
 ∃ af, af < m6 ∧ I0 af [.int .i64 (IntKind.i64.wrap (t4 + 1))] a5) ∧
 ((t4 : Int) = 2 → 
 0 ≤ (8 : Int) ∧
 a2.elim False fun ac =>
 0 ≤ ((IntKind.i64.wrap ((1 : Int) + t4)) : Int) ∧ ((IntKind.i64.wrap ((1 : Int) + t4)) : Int) < (a1 : Int) ∧
 canStore a0 ((ac.add (Int.toNat (IntKind.i64.wrap ((1 : Int) + t4)) * 1)).add 0) ∧
 thenW (a0.setCell ((ac.add (Int.toNat (IntKind.i64.wrap ((1 : Int) + t4)) * 1)).add 0) (.int .u8 (IntKind.u8.wrap (Int.fdiv n1 (2 ^ (min (Int.toNat 8) (IntKind.bits .u32))))))) fun a3 =>
 ∃ ag, ag < m6 ∧ I0 ag [.int .i64 (IntKind.i64.wrap (t4 + 1))] a3) ∧
 ((t4 : Int) = 3 → 
 0 ≤ (0 : Int) ∧
 a2.elim False fun ae =>
 0 ≤ ((IntKind.i64.wrap ((1 : Int) + t4)) : Int) ∧ ((IntKind.i64.wrap ((1 : Int) + t4)) : Int) < (a1 : Int) ∧
 canStore a0 ((ae.add (Int.toNat (IntKind.i64.wrap ((1 : Int) + t4)) * 1)).add 0) ∧
 thenW (a0.setCell ((ae.add (Int.toNat (IntKind.i64.wrap ((1 : Int) + t4)) * 1)).add 0) (.int .u8 (IntKind.u8.wrap (Int.fdiv n1 (2 ^ (min (Int.toNat 0) (IntKind.bits .u32))))))) fun a6 =>
 ∃ ad, ad < m6 ∧ I0 ad [.int .i64 (IntKind.i64.wrap (t4 + 1))] a6) ∧ True) else (
 a2.elim False fun a9 =>
 0 ≤ (0 : Int) ∧ (0 : Int) < (a1 : Int) ∧
 canStore a0 ((a9.add (Int.toNat 0 * 1)).add 0) ∧
 thenW (a0.setCell ((a9.add (Int.toNat 0 * 1)).add 0) (.int .u8 94)) fun a4 =>
 R (.slice a2 a1 ah) a4)

theorem snapshot_head.eq (n1 : Int) (R : Value → World → Prop) (w : World) : mfunc Try.prog [(0, [0, 3, 7], [(8, (.one (.int .i64)))])] 36 [.int .u32 n1] R w = snapshot_head.M n1 R w := by kernel_rfl
theorem snapshot_head.ok (n1 : Int) {R : Value → World → Prop} {w : World} (h : snapshot_head.M n1 R w) : Calls Try.prog 36 #[.int .u32 n1] w fun e w' => ∃ v, e = .returned v ∧ R v w' :=
  mfunc_ok follows (H := [(0, [0, 3, 7], [(8, (.one (.int .i64)))])]) (args := [.int .u32 n1]) (by rw [snapshot_head.eq]; exact h)

def snapshot_head.N (n1 : Int) (R : Value → World → Prop) (w : World) : Prop :=
 ∃ (a2 : Option Addr) (a1 : Nat) (ai : Nat) (ae : World), (Instr.makeSlice 30 (.int .i64 64) (.int .i64 64)).run Try.prog w = .ok (.slice a2 a1 ai) ae ∧
 ∃ (I0 : Nat → List Value → World → Prop) (m5 : Nat), I0 m5 [.int .i64 0] ae ∧ ∀ (m6 : Nat) (a0 : World) (t4 : Int), I0 m6 [.int .i64 t4] a0 →
 (t4 < 4 →
 0 ≤ (t4 : Int) ∧ (t4 : Int) < (4 : Int) ∧
 ((t4 : Int) = 0 →
 (-9223372036854775808 : Int) ≤ ((1 : Int) + t4) ∧ ((1 : Int) + t4) < 9223372036854775808 ∧
 ∃ a9 : Addr, a2 = some a9 ∧
 0 ≤ (((1 : Int) + t4) : Int) ∧ (((1 : Int) + t4) : Int) < (a1 : Int) ∧
 canStore a0 ((a9.add (Int.toNat ((1 : Int) + t4) * 1)).add 0) ∧
 thenW (a0.setCell ((a9.add (Int.toNat ((1 : Int) + t4) * 1)).add 0) (.int .u8 (IntKind.u8.wrap (n1 / 16777216)))) fun aa =>
 (-9223372036854775808 : Int) ≤ (t4 + 1) ∧ (t4 + 1) < 9223372036854775808 ∧
 ∃ ag, ag < m6 ∧ I0 ag [.int .i64 (t4 + 1)] aa) ∧
 ((t4 : Int) = 1 →
 (-9223372036854775808 : Int) ≤ ((1 : Int) + t4) ∧ ((1 : Int) + t4) < 9223372036854775808 ∧
 ∃ a5 : Addr, a2 = some a5 ∧
 0 ≤ (((1 : Int) + t4) : Int) ∧ (((1 : Int) + t4) : Int) < (a1 : Int) ∧
 canStore a0 ((a5.add (Int.toNat ((1 : Int) + t4) * 1)).add 0) ∧
 thenW (a0.setCell ((a5.add (Int.toNat ((1 : Int) + t4) * 1)).add 0) (.int .u8 (IntKind.u8.wrap (n1 / 65536)))) fun a3 =>
 (-9223372036854775808 : Int) ≤ (t4 + 1) ∧ (t4 + 1) < 9223372036854775808 ∧
 ∃ ah, ah < m6 ∧ I0 ah [.int .i64 (t4 + 1)] a3) ∧
 ((t4 : Int) = 2 →
 (-9223372036854775808 : Int) ≤ ((1 : Int) + t4) ∧ ((1 : Int) + t4) < 9223372036854775808 ∧
 ∃ a6 : Addr, a2 = some a6 ∧
 0 ≤ (((1 : Int) + t4) : Int) ∧ (((1 : Int) + t4) : Int) < (a1 : Int) ∧
 canStore a0 ((a6.add (Int.toNat ((1 : Int) + t4) * 1)).add 0) ∧
 thenW (a0.setCell ((a6.add (Int.toNat ((1 : Int) + t4) * 1)).add 0) (.int .u8 (IntKind.u8.wrap (n1 / 256)))) fun a7 =>
 (-9223372036854775808 : Int) ≤ (t4 + 1) ∧ (t4 + 1) < 9223372036854775808 ∧
 ∃ af, af < m6 ∧ I0 af [.int .i64 (t4 + 1)] a7) ∧
 ((t4 : Int) = 3 →
 (-9223372036854775808 : Int) ≤ ((1 : Int) + t4) ∧ ((1 : Int) + t4) < 9223372036854775808 ∧
 ∃ a4 : Addr, a2 = some a4 ∧
 0 ≤ (((1 : Int) + t4) : Int) ∧ (((1 : Int) + t4) : Int) < (a1 : Int) ∧
 canStore a0 ((a4.add (Int.toNat ((1 : Int) + t4) * 1)).add 0) ∧
 thenW (a0.setCell ((a4.add (Int.toNat ((1 : Int) + t4) * 1)).add 0) (.int .u8 (IntKind.u8.wrap (n1 / 1)))) fun a8 =>
 (-9223372036854775808 : Int) ≤ (t4 + 1) ∧ (t4 + 1) < 9223372036854775808 ∧
 ∃ ad, ad < m6 ∧ I0 ad [.int .i64 (t4 + 1)] a8)) ∧
 ((4 : Int) ≤ t4 →
 ∃ ab : Addr, a2 = some ab ∧
 (0 : Int) < (a1 : Int) ∧
 canStore a0 ((ab.add (Int.toNat 0 * 1)).add 0) ∧
 thenW (a0.setCell ((ab.add (Int.toNat 0 * 1)).add 0) (.int .u8 94)) fun ac =>
 R (.slice a2 a1 ai) ac)

theorem snapshot_head.up (n1 : Int) {R : Value → World → Prop} {w : World} (h : snapshot_head.N n1 R w) : snapshot_head.M n1 R w := by
  unfold snapshot_head.M
  unfold snapshot_head.N at h
  obtain ⟨ab, ae, ai, aq, hr, h⟩ := h
  refine ⟨ab, ae, ai, aq, hr, ?_⟩
  obtain ⟨I0, m5, h0, h⟩ := h
  refine ⟨I0, m5, h0, fun m6 al t4 hI => ?_⟩
  have h := h m6 al t4 hI
  refine bif_of (fun c8 => ?_) (fun c8 => ?_)
  · have h := h.1 (of_decide_eq_true c8)
    obtain ⟨a3, a2, h⟩ := h
    refine ⟨a3, a2, ?_⟩
    refine ⟨fun hk => ?_, fun hk => ?_, fun hk => ?_, fun hk => ?_, trivial⟩
    · have h := h.1 hk
      obtain ⟨a1, a0, h⟩ := h
      try rw [w64 a1 a0]
      refine ⟨by decide, ?_⟩
      try rw [show (2 ^ (min (Int.toNat 24) (IntKind.bits .u32)) : Int) = 16777216 from rfl]
      try rw [Int.fdiv_eq_ediv_of_nonneg n1 (by decide : (0 : Int) ≤ 16777216)]
      obtain ⟨a9, ad, h⟩ := h
      refine elim_some ad ?_
      obtain ⟨a3, a2, h⟩ := h
      refine ⟨a3, a2, ?_⟩
      obtain ⟨hcs, h⟩ := h
      refine ⟨hcs, thenW_in fun a8 ah => ?_⟩
      replace h := thenW_out h ah
      obtain ⟨a1, a0, h⟩ := h
      try rw [w64 a1 a0]
      obtain ⟨ag, hk, h⟩ := h
      exact ⟨ag, hk, h⟩
    · have h := h.2.1 hk
      obtain ⟨a1, a0, h⟩ := h
      try rw [w64 a1 a0]
      refine ⟨by decide, ?_⟩
      try rw [show (2 ^ (min (Int.toNat 16) (IntKind.bits .u32)) : Int) = 65536 from rfl]
      try rw [Int.fdiv_eq_ediv_of_nonneg n1 (by decide : (0 : Int) ≤ 65536)]
      obtain ⟨av, a5, h⟩ := h
      refine elim_some a5 ?_
      obtain ⟨a3, a2, h⟩ := h
      refine ⟨a3, a2, ?_⟩
      obtain ⟨hcs, h⟩ := h
      refine ⟨hcs, thenW_in fun ac aa => ?_⟩
      replace h := thenW_out h aa
      obtain ⟨a1, a0, h⟩ := h
      try rw [w64 a1 a0]
      obtain ⟨am, hk, h⟩ := h
      exact ⟨am, hk, h⟩
    · have h := h.2.2.1 hk
      obtain ⟨a1, a0, h⟩ := h
      try rw [w64 a1 a0]
      refine ⟨by decide, ?_⟩
      try rw [show (2 ^ (min (Int.toNat 8) (IntKind.bits .u32)) : Int) = 256 from rfl]
      try rw [Int.fdiv_eq_ediv_of_nonneg n1 (by decide : (0 : Int) ≤ 256)]
      obtain ⟨ax, a7, h⟩ := h
      refine elim_some a7 ?_
      obtain ⟨a3, a2, h⟩ := h
      refine ⟨a3, a2, ?_⟩
      obtain ⟨hcs, h⟩ := h
      refine ⟨hcs, thenW_in fun ar ao => ?_⟩
      replace h := thenW_out h ao
      obtain ⟨a1, a0, h⟩ := h
      try rw [w64 a1 a0]
      obtain ⟨af, hk, h⟩ := h
      exact ⟨af, hk, h⟩
    · have h := h.2.2.2 hk
      obtain ⟨a1, a0, h⟩ := h
      try rw [w64 a1 a0]
      refine ⟨by decide, ?_⟩
      try rw [show (2 ^ (min (Int.toNat 0) (IntKind.bits .u32)) : Int) = 1 from rfl]
      try rw [Int.fdiv_eq_ediv_of_nonneg n1 (by decide : (0 : Int) ≤ 1)]
      obtain ⟨ay, a6, h⟩ := h
      refine elim_some a6 ?_
      obtain ⟨a3, a2, h⟩ := h
      refine ⟨a3, a2, ?_⟩
      obtain ⟨hcs, h⟩ := h
      refine ⟨hcs, thenW_in fun an aj => ?_⟩
      replace h := thenW_out h aj
      obtain ⟨a1, a0, h⟩ := h
      try rw [w64 a1 a0]
      obtain ⟨ap, hk, h⟩ := h
      exact ⟨ap, hk, h⟩
  · have h := h.2 (Int.not_lt.1 (of_decide_eq_false c8))
    obtain ⟨aw, a4, h⟩ := h
    refine elim_some a4 ?_
    obtain ⟨a2, h⟩ := h
    refine ⟨by decide, a2, ?_⟩
    obtain ⟨hcs, h⟩ := h
    refine ⟨hcs, thenW_in fun au ak => ?_⟩
    replace h := thenW_out h ak
    exact h

theorem snapshot_head.go (n1 : Int) {R : Value → World → Prop} {w : World} (h : snapshot_head.N n1 R w) : Calls Try.prog 36 #[.int .u32 n1] w fun e w' => ∃ v, e = .returned v ∧ R v w' := snapshot_head.ok n1 (snapshot_head.up n1 h)
/-- slices.Equal[[]byte,byte] -/
def slices_Equal_byte_byte.M (a6 : Option Addr) (a1 : Nat) (ab : Nat) (a7 : Option Addr) (a5 : Nat) (aa : Nat) (R : Value → World → Prop) (w : World) : Prop :=
 bif (a1 : Int) != (a5 : Int) then (
 R (.bool false) w) else (
 ∃ (I0 : Nat → List Value → World → Prop) (m4 : Nat), I0 m4 [.int .i64 0] w ∧ ∀ (m5 : Nat) (a2 : World) (t3 : Int), I0 m5 [.int .i64 t3] a2 →
 bif decide (t3 < (a1 : Int)) then (
 thenW (a2.drew) fun a0 =>
 a6.elim False fun a8 =>
 0 ≤ (t3 : Int) ∧ (t3 : Int) < (a1 : Int) ∧
 ∃ (x9 : Int), a0.cell? (a8.add (Int.toNat t3 * 1)) = some (.int .u8 x9) ∧
 a7.elim False fun a9 =>
 0 ≤ (t3 : Int) ∧ (t3 : Int) < (a5 : Int) ∧
 ∃ (a3 : Int), a0.cell? (a9.add (Int.toNat t3 * 1)) = some (.int .u8 a3) ∧
 bif x9 != a3 then (
 R (.bool false) a0) else (
 ∃ a4, a4 < m5 ∧ I0 a4 [.int .i64 (IntKind.i64.wrap (t3 + 1))] a0)) else (
 R (.bool true) a2))

theorem slices_Equal_byte_byte.eq (s1a : Option Addr) (s1n : Nat) (s1c : Nat) (s2a : Option Addr) (s2n : Nat) (s2c : Nat) (R : Value → World → Prop) (w : World) : mfunc Try.prog [(0, [0, 1, 12], [(13, (.one (.int .i64)))])] 49 [.slice s1a s1n s1c, .slice s2a s2n s2c] R w = slices_Equal_byte_byte.M s1a s1n s1c s2a s2n s2c R w := by kernel_rfl
theorem slices_Equal_byte_byte.ok (a1 : Option Addr) (a3 : Nat) (a5 : Nat) (a2 : Option Addr) (a4 : Nat) (a0 : Nat) {R : Value → World → Prop} {w : World} (h : slices_Equal_byte_byte.M a1 a3 a5 a2 a4 a0 R w) : Calls Try.prog 49 #[.slice a1 a3 a5, .slice a2 a4 a0] w fun e w' => ∃ v, e = .returned v ∧ R v w' :=
  mfunc_ok follows (H := [(0, [0, 1, 12], [(13, (.one (.int .i64)))])]) (args := [.slice a1 a3 a5, .slice a2 a4 a0]) (by rw [slices_Equal_byte_byte.eq]; exact h)

def slices_Equal_byte_byte.N (a9 : Option Addr) (a1 : Nat) (ac : Nat) (aa : Option Addr) (a4 : Nat) (ab : Nat) (R : Value → World → Prop) (w : World) : Prop :=
 ((a1 : Int) ≠ (a4 : Int) →
 R (.bool false) w) ∧
 ((a1 : Int) = (a4 : Int) →
 ∃ (I0 : Nat → List Value → World → Prop) (m5 : Nat), I0 m5 [.int .i64 0] w ∧ ∀ (m6 : Nat) (a0 : World) (t4 : Int), I0 m6 [.int .i64 t4] a0 →
 (t4 < (a1 : Int) →
 ∃ a6 : Addr, a9 = some a6 ∧
 0 ≤ (t4 : Int) ∧ (t4 : Int) < (a1 : Int) ∧
 ∃ (a5 : Int), a0.cell? (a6.add (Int.toNat t4 * 1)) = some (.int .u8 a5) ∧
 ∃ a8 : Addr, aa = some a8 ∧
 0 ≤ (t4 : Int) ∧ (t4 : Int) < (a4 : Int) ∧
 ∃ (a3 : Int), a0.cell? (a8.add (Int.toNat t4 * 1)) = some (.int .u8 a3) ∧
 (a5 ≠ a3 →
 ∀ (a2 : World), Ext no a0 a2 →
 R (.bool false) a2) ∧
 (a5 = a3 →
 (-9223372036854775808 : Int) ≤ (t4 + 1) ∧ (t4 + 1) < 9223372036854775808 ∧
 ∀ (a2 : World), Ext no a0 a2 →
 ∃ a7, a7 < m6 ∧ I0 a7 [.int .i64 (t4 + 1)] a2)) ∧
 ((a1 : Int) ≤ t4 →
 R (.bool true) a0))

theorem slices_Equal_byte_byte.up (a8 : Option Addr) (ad : Nat) (ab : Nat) (af : Option Addr) (aa : Nat) (ac : Nat) {R : Value → World → Prop} {w : World} (h : slices_Equal_byte_byte.N a8 ad ab af aa ac R w) : slices_Equal_byte_byte.M a8 ad ab af aa ac R w := by
  unfold slices_Equal_byte_byte.M
  unfold slices_Equal_byte_byte.N at h
  refine bif_of (fun c3 => ?_) (fun c3 => ?_)
  · have h := h.1 (bne_t c3)
    exact h
  · have h := h.2 (bne_f c3)
    obtain ⟨I0, m5, h0, h⟩ := h
    refine ⟨I0, m5, h0, fun m6 ae t4 hI => ?_⟩
    have h := h m6 ae t4 hI
    refine bif_of (fun c8 => ?_) (fun c8 => ?_)
    · have h := h.1 (of_decide_eq_true c8)
      refine thenW_in fun a9 e9 => ?_
      have a0 := (Ext.refl no ae).x_drew e9
      obtain ⟨am, a1, h⟩ := h
      refine elim_some a1 ?_
      obtain ⟨a7, a4, h⟩ := h
      refine ⟨a7, a4, ?_⟩
      obtain ⟨ah, a6, h⟩ := h
      refine ⟨ah, (a0).cell a6 id, ?_⟩
      obtain ⟨al, a3, h⟩ := h
      refine elim_some a3 ?_
      obtain ⟨a7, a4, h⟩ := h
      refine ⟨a7, a4, ?_⟩
      obtain ⟨ag, a5, h⟩ := h
      refine ⟨ag, (a0).cell a5 id, ?_⟩
      refine bif_of (fun a2 => ?_) (fun a2 => ?_)
      · have h := h.1 (bne_t a2)
        have h := h a9 a0
        exact h
      · have h := h.2 (bne_f a2)
        obtain ⟨ak, aj, h⟩ := h
        try rw [w64 ak aj]
        have h := h a9 a0
        obtain ⟨ai, hk, h⟩ := h
        exact ⟨ai, hk, h⟩
    · have h := h.2 (Int.not_lt.1 (of_decide_eq_false c8))
      exact h

theorem slices_Equal_byte_byte.go (a1 : Option Addr) (a3 : Nat) (a5 : Nat) (a2 : Option Addr) (a4 : Nat) (a0 : Nat) {R : Value → World → Prop} {w : World} (h : slices_Equal_byte_byte.N a1 a3 a5 a2 a4 a0 R w) : Calls Try.prog 49 #[.slice a1 a3 a5, .slice a2 a4 a0] w fun e w' => ∃ v, e = .returned v ∧ R v w' := slices_Equal_byte_byte.ok a1 a3 a5 a2 a4 a0 (slices_Equal_byte_byte.up a1 a3 a5 a2 a4 a0 h)
theorem slices_Equal_byte_byte.run (a1 : Option Addr) (a3 : Nat) (a5 : Nat) (a2 : Option Addr) (a4 : Nat) (a0 : Nat) {V : Value} {Q : World → Prop} {w : World} (h : slices_Equal_byte_byte.N a1 a3 a5 a2 a4 a0 (fun v w' => v = V ∧ Q w') w) : Calls Try.prog 49 #[.slice a1 a3 a5, .slice a2 a4 a0] w (Ret V Q) := (slices_Equal_byte_byte.go a1 a3 a5 a2 a4 a0 h).mono fun e w' ⟨v, he, hv, hq⟩ => ⟨by rw [he, hv], hq⟩

/-- snapshot.number -/
def snapshot_number.M (a0 : Nat) (ae : Array Value) (ad : Array Value) (i2 : Int) (R : Value → World → Prop) (w : World) : Prop :=
 bif enters Try.prog a0 then Calls Try.prog a0 (ae.toList ++ ([.int .i64 i2] : List Value) ++ ad.toList).toArray w (fun ba az => ∃ (ag : Option Addr) (al : Nat) (af : Nat) (r4 : Int), ba = .returned (.tuple #[.slice ag al af, .int .i64 r4]) ∧
 bif r4 != 0 then (
 R (.int .u32 0) az) else (
 (0 : Int) ≤ (5 : Int) ∧ (5 : Int) ≤ (af : Int) ∧ (0 : Int) ≤ (1 : Int) ∧ (1 : Int) ≤ (5 : Int) ∧
 ∃ (I0 : Nat → List Value → World → Prop) (b6 : Nat), I0 b6 [.int .u32 0, .int .i64 0] az ∧ ∀ (b2 : Nat) (ab : World) (n8 : Int) (t9 : Int), I0 b2 [.int .u32 n8, .int .i64 t9] ab →
 bif decide (t9 < (((Int.toNat 5) - (Int.toNat 1) : Nat) : Int)) then (
 (if af = Int.toNat 1 then ag else Option.map (fun z : Addr => z.add ((Int.toNat 1) * 1)) ag).elim False fun b8 =>
 0 ≤ (t9 : Int) ∧ (t9 : Int) < (((Int.toNat 5) - (Int.toNat 1) : Nat) : Int) ∧
 ∃ (b3 : Int), ab.cell? (b8.add (Int.toNat t9 * 1)) = some (.int .u8 b3) ∧
 0 ≤ (8 : Int) ∧
 ∃ b0, b0 < b2 ∧ I0 b0 [.int .u32 (IntKind.u32.wrap ((BitVec.ofInt (IntKind.bits .u32) (IntKind.u32.wrap (n8 * 2 ^ (min (Int.toNat 8) (IntKind.bits .u32)))) ||| BitVec.ofInt (IntKind.bits .u32) (IntKind.u32.wrap b3)).toNat)), .int .i64 (IntKind.i64.wrap (t9 + 1))] ab) else (
 bif n8 == 0 then (
 R (.int .u32 0) ab) else (
 Calls Try.prog 35 #[.int .u32 n8] ab fun aw an => ∃ (a4 : Int), aw = .returned (.int .i64 a4) ∧
 bif a4 != i2 then (
 R (.int .u32 0) an) else (
 Calls Try.prog 36 #[.int .u32 n8] an fun av ao => ∃ (aa : Option Addr) (a1 : Nat) (a8 : Nat), av = .returned (.slice aa a1 a8) ∧
 Calls Try.prog 49 #[.slice aa a1 a8, .slice ag al af] ao fun au aj => ∃ (a9 : Bool), au = .returned (.bool a9) ∧
 bif !a9 then (
 R (.int .u32 0) aj) else (
 R (.int .u32 n8) aj)))))) else (∃ (ag : Option Addr) (al : Nat) (af : Nat) (r4 : Int) (ax : World), (externCall a0 (ae.toList ++ ([.int .i64 i2] : List Value) ++ ad.toList).toArray).run Try.prog w = .ok (.tuple #[.slice ag al af, .int .i64 r4]) ax ∧
 bif r4 != 0 then (
 R (.int .u32 0) ax) else (
 (0 : Int) ≤ (5 : Int) ∧ (5 : Int) ≤ (af : Int) ∧ (0 : Int) ≤ (1 : Int) ∧ (1 : Int) ≤ (5 : Int) ∧
 ∃ (I0 : Nat → List Value → World → Prop) (b7 : Nat), I0 b7 [.int .u32 0, .int .i64 0] ax ∧ ∀ (b5 : Nat) (ac : World) (ah : Int) (ai : Int), I0 b5 [.int .u32 ah, .int .i64 ai] ac →
 bif decide (ai < (((Int.toNat 5) - (Int.toNat 1) : Nat) : Int)) then (
 (if af = Int.toNat 1 then ag else Option.map (fun z : Addr => z.add ((Int.toNat 1) * 1)) ag).elim False fun b9 =>
 0 ≤ (ai : Int) ∧ (ai : Int) < (((Int.toNat 5) - (Int.toNat 1) : Nat) : Int) ∧
 ∃ (b4 : Int), ac.cell? (b9.add (Int.toNat ai * 1)) = some (.int .u8 b4) ∧
 0 ≤ (8 : Int) ∧
 ∃ b1, b1 < b5 ∧ I0 b1 [.int .u32 (IntKind.u32.wrap ((BitVec.ofInt (IntKind.bits .u32) (IntKind.u32.wrap (ah * 2 ^ (min (Int.toNat 8) (IntKind.bits .u32)))) ||| BitVec.ofInt (IntKind.bits .u32) (IntKind.u32.wrap b4)).toNat)), .int .i64 (IntKind.i64.wrap (ai + 1))] ac) else (
 bif ah == 0 then (
 R (.int .u32 0) ac) else (
 Calls Try.prog 35 #[.int .u32 ah] ac fun aq am => ∃ (a6 : Int), aq = .returned (.int .i64 a6) ∧
 bif a6 != i2 then (
 R (.int .u32 0) am) else (
 Calls Try.prog 36 #[.int .u32 ah] am fun ay ap => ∃ (a7 : Option Addr) (a3 : Nat) (a5 : Nat), ay = .returned (.slice a7 a3 a5) ∧
 Calls Try.prog 49 #[.slice a7 a3 a5, .slice ag al af] ap fun ar ak => ∃ (a2 : Bool), ar = .returned (.bool a2) ∧
 bif !a2 then (
 R (.int .u32 0) ak) else (
 R (.int .u32 ah) ak))))))

theorem snapshot_number.eq (read1k : Nat) (read1f : Array Value) (read1g : Array Value) (i2 : Int) (R : Value → World → Prop) (w : World) : mfunc Try.prog [(0, [1, 5, 19, 20], [(7, (.one (.int .u32))), (21, (.one (.int .i64)))])] 24 [.func (.func read1k) read1f read1g, .int .i64 i2] R w = snapshot_number.M read1k read1f read1g i2 R w := by kernel_rfl
theorem snapshot_number.ok (a1 : Nat) (a2 : Array Value) (a0 : Array Value) (i2 : Int) {R : Value → World → Prop} {w : World} (h : snapshot_number.M a1 a2 a0 i2 R w) : Calls Try.prog 24 #[.func (.func a1) a2 a0, .int .i64 i2] w fun e w' => ∃ v, e = .returned v ∧ R v w' :=
  mfunc_ok follows (H := [(0, [1, 5, 19, 20], [(7, (.one (.int .u32))), (21, (.one (.int .i64)))])]) (args := [.func (.func a1) a2 a0, .int .i64 i2]) (by rw [snapshot_number.eq]; exact h)

def snapshot_number.N (a6 : Nat) (a8 : Array Value) (a7 : Array Value) (i2 : Int) (R : Value → World → Prop) (w : World) : Prop :=
 enters Try.prog a6 = true ∧ Calls Try.prog a6 (a8.toList ++ ([.int .i64 i2] : List Value) ++ a7.toList).toArray w (fun ao aj => ∃ (af : Option Addr) (am : Nat) (ab : Nat) (r4 : Int), ao = .returned (.tuple #[.slice af am ab, .int .i64 r4]) ∧
 (r4 ≠ 0 →
 R (.int .u32 0) aj) ∧
 (r4 = 0 →
 (5 : Int) ≤ (ab : Int) ∧ 
 ∃ (I0 : Nat → List Value → World → Prop) (an : Nat), I0 an [.int .u32 0, .int .i64 0] aj ∧ ∀ (al : Nat) (a5 : World) (n8 : Int) (t9 : Int), I0 al [.int .u32 n8, .int .i64 t9] a5 →
 (t9 < ((5 - 1 : Nat) : Int) →
 ∃ ah : Addr, cutA af ab 1 1 = some ah ∧
 0 ≤ (t9 : Int) ∧ (t9 : Int) < ((5 - 1 : Nat) : Int) ∧
 ∃ (ai : Int), a5.cell? (ah.add (Int.toNat t9 * 1)) = some (.int .u8 ai) ∧
 (-9223372036854775808 : Int) ≤ (t9 + 1) ∧ (t9 + 1) < 9223372036854775808 ∧
 ∃ ak, ak < al ∧ I0 ak [.int .u32 (IntKind.u32.wrap ((BitVec.ofInt (IntKind.bits .u32) (IntKind.u32.wrap (n8 * 256)) ||| BitVec.ofInt (IntKind.bits .u32) (IntKind.u32.wrap ai)).toNat)), .int .i64 (t9 + 1)] a5) ∧
 (((5 - 1 : Nat) : Int) ≤ t9 →
 (n8 = 0 →
 R (.int .u32 0) a5) ∧
 (n8 ≠ 0 →
 Calls Try.prog 35 #[.int .u32 n8] a5 fun ad a9 => ∃ (a1 : Int), ad = .returned (.int .i64 a1) ∧
 (a1 ≠ i2 →
 R (.int .u32 0) a9) ∧
 (a1 = i2 →
 Calls Try.prog 36 #[.int .u32 n8] a9 fun ae ag => ∃ (a4 : Option Addr) (a2 : Nat) (a3 : Nat), ae = .returned (.slice a4 a2 a3) ∧
 Calls Try.prog 49 #[.slice a4 a2 a3, .slice af am ab] ag fun ac aa => ∃ (a0 : Bool), ac = .returned (.bool a0) ∧
 (a0 = false →
 R (.int .u32 0) aa) ∧
 (a0 = true →
 R (.int .u32 n8) aa))))))

theorem snapshot_number.up (a0 : Nat) (a2 : Array Value) (a1 : Array Value) (i2 : Int) {R : Value → World → Prop} {w : World} (h : snapshot_number.N a0 a2 a1 i2 R w) : snapshot_number.M a0 a2 a1 i2 R w := by
  unfold snapshot_number.M
  unfold snapshot_number.N at h
  obtain ⟨hen, h⟩ := h
  refine bif_tt hen ?_
  refine h.mono fun b0 az h => ?_
  obtain ⟨au, aq, ap, r4, he, h⟩ := h
  refine ⟨au, aq, ap, r4, he, ?_⟩
  refine bif_of (fun c7 => ?_) (fun c7 => ?_)
  · have h := h.1 (bne_t c7)
    exact h
  · have h := h.2 (bne_f c7)
    obtain ⟨af, h⟩ := h
    refine ⟨by decide, af, by decide, by decide, ?_⟩
    obtain ⟨I0, ag, h0, h⟩ := h
    refine ⟨I0, ag, h0, fun al aa n8 t9 hI => ?_⟩
    have h := h al aa n8 t9 hI
    refine bif_of (fun ac => ?_) (fun ac => ?_)
    · have h := h.1 (of_decide_eq_true ac)
      obtain ⟨ay, ae, h⟩ := h
      refine elim_some ae ?_
      obtain ⟨af, ar, h⟩ := h
      refine ⟨af, ar, ?_⟩
      obtain ⟨ai, ab, h⟩ := h
      refine ⟨ai, ab, ?_⟩
      refine ⟨by decide, ?_⟩
      try rw [show (2 ^ (min (Int.toNat 8) (IntKind.bits .u32)) : Int) = 256 from rfl]
      obtain ⟨aw, am, h⟩ := h
      try rw [w64 aw am]
      obtain ⟨aj, hk, h⟩ := h
      exact ⟨aj, hk, h⟩
    · have h := h.2 (Int.not_lt.1 (of_decide_eq_false ac))
      refine bif_of (fun a8 => ?_) (fun a8 => ?_)
      · have h := h.1 (beq_t a8)
        exact h
      · have h := h.2 (beq_f a8)
        refine h.mono fun ak ah h => ?_
        obtain ⟨a6, he, h⟩ := h
        refine ⟨a6, he, ?_⟩
        refine bif_of (fun ad => ?_) (fun ad => ?_)
        · have h := h.1 (bne_t ad)
          exact h
        · have h := h.2 (bne_f ad)
          refine h.mono fun an av h => ?_
          obtain ⟨a7, a4, a5, he, h⟩ := h
          refine ⟨a7, a4, a5, he, ?_⟩
          refine h.mono fun ax ao h => ?_
          obtain ⟨a3, he, h⟩ := h
          refine ⟨a3, he, ?_⟩
          refine bif_of (fun a9 => ?_) (fun a9 => ?_)
          · have h := h.1 (not_t a9)
            exact h
          · have h := h.2 (not_f a9)
            exact h

theorem snapshot_number.go (a1 : Nat) (a2 : Array Value) (a0 : Array Value) (i2 : Int) {R : Value → World → Prop} {w : World} (h : snapshot_number.N a1 a2 a0 i2 R w) : Calls Try.prog 24 #[.func (.func a1) a2 a0, .int .i64 i2] w fun e w' => ∃ v, e = .returned v ∧ R v w' := snapshot_number.ok a1 a2 a0 i2 (snapshot_number.up a1 a2 a0 i2 h)
theorem snapshot_number.run (a1 : Nat) (a2 : Array Value) (a0 : Array Value) (i2 : Int) {V : Value} {Q : World → Prop} {w : World} (h : snapshot_number.N a1 a2 a0 i2 (fun v w' => v = V ∧ Q w') w) : Calls Try.prog 24 #[.func (.func a1) a2 a0, .int .i64 i2] w (Ret V Q) := (snapshot_number.go a1 a2 a0 i2 h).mono fun e w' ⟨v, he, hv, hq⟩ => ⟨by rw [he, hv], hq⟩

/-- (*snapshot.Store).base -/
def snapshot_Store_base.M (s1 : Option Addr) (n2 : Int) (R : Value → World → Prop) (w : World) : Prop :=
 thenW (w.drew) fun a3 =>
 s1.elim False fun a4 =>
 ∃ (a0 : Int), a3.cell? (a4.add 1) = some (.int .i64 a0) ∧
 Calls Try.prog 35 #[.int .u32 n2] a3 fun a5 a2 => ∃ (a1 : Int), a5 = .returned (.int .i64 a1) ∧
 a2.cell? (a4.add 1) = some (.int .i64 a0) ∧
 R (.int .i64 (IntKind.i64.wrap ((2 : Int) + (IntKind.i64.wrap (a1 * a0))))) a2

theorem snapshot_Store_base.eq (s1 : Option Addr) (n2 : Int) (R : Value → World → Prop) (w : World) : mfunc Try.prog [] 27 [.pointer s1, .int .u32 n2] R w = snapshot_Store_base.M s1 n2 R w := by kernel_rfl
theorem snapshot_Store_base.ok (s1 : Option Addr) (n2 : Int) {R : Value → World → Prop} {w : World} (h : snapshot_Store_base.M s1 n2 R w) : Calls Try.prog 27 #[.pointer s1, .int .u32 n2] w fun e w' => ∃ v, e = .returned v ∧ R v w' :=
  mfunc_ok follows (H := []) (args := [.pointer s1, .int .u32 n2]) (by rw [snapshot_Store_base.eq]; exact h)

def snapshot_Store_base.N (s1 : Option Addr) (n2 : Int) (R : Value → World → Prop) (w : World) : Prop :=
 ∃ a4 : Addr, s1 = some a4 ∧
 ∃ (a1 : Int), w.cell? (a4.add 1) = some (.int .i64 a1) ∧
 ∀ (a2 : World), Ext no w a2 →
 Calls Try.prog 35 #[.int .u32 n2] a2 fun a5 a3 => ∃ (a0 : Int), a5 = .returned (.int .i64 a0) ∧
 a3.cell? (a4.add 1) = some (.int .i64 a1) ∧
 (-9223372036854775808 : Int) ≤ (a0 * a1) ∧ (a0 * a1) < 9223372036854775808 ∧
 (-9223372036854775808 : Int) ≤ ((2 : Int) + (a0 * a1)) ∧ ((2 : Int) + (a0 * a1)) < 9223372036854775808 ∧
 R (.int .i64 ((2 : Int) + (a0 * a1))) a3

theorem snapshot_Store_base.up (s1 : Option Addr) (n2 : Int) {R : Value → World → Prop} {w : World} (h : snapshot_Store_base.N s1 n2 R w) : snapshot_Store_base.M s1 n2 R w := by
  unfold snapshot_Store_base.M
  unfold snapshot_Store_base.N at h
  refine thenW_in fun a7 e3 => ?_
  have a6 := (Ext.refl no w).x_drew e3
  obtain ⟨a4, a9, h⟩ := h
  refine elim_some a9 ?_
  obtain ⟨a1, a8, h⟩ := h
  refine ⟨a1, (a6).cell a8 id, ?_⟩
  have h := h a7 a6
  refine h.mono fun ab aa h => ?_
  obtain ⟨a0, he, h⟩ := h
  refine ⟨a0, he, ?_⟩
  obtain ⟨a2, h⟩ := h
  refine ⟨a2, ?_⟩
  obtain ⟨a3, a5, h⟩ := h
  try rw [w64 a3 a5]
  obtain ⟨a3, a5, h⟩ := h
  try rw [w64 a3 a5]
  exact h

theorem snapshot_Store_base.go (s1 : Option Addr) (n2 : Int) {R : Value → World → Prop} {w : World} (h : snapshot_Store_base.N s1 n2 R w) : Calls Try.prog 27 #[.pointer s1, .int .u32 n2] w fun e w' => ∃ v, e = .returned v ∧ R v w' := snapshot_Store_base.ok s1 n2 (snapshot_Store_base.up s1 n2 h)
theorem snapshot_Store_base.run (s1 : Option Addr) (n2 : Int) {V : Value} {Q : World → Prop} {w : World} (h : snapshot_Store_base.N s1 n2 (fun v w' => v = V ∧ Q w') w) : Calls Try.prog 27 #[.pointer s1, .int .u32 n2] w (Ret V Q) := (snapshot_Store_base.go s1 n2 h).mono fun e w' ⟨v, he, hv, hq⟩ => ⟨by rw [he, hv], hq⟩

/-- (*snapshot.Store).see -/
def snapshot_Store_see.M (s1 : Option Addr) (k2 : Int) (R : Value → World → Prop) (w : World) : Prop :=
 bif k2 == 19 then (
 s1.elim False fun a3 =>
 canStore w ((a3.add 4).add 0) ∧
 thenW (w.setCell ((a3.add 4).add 0) (.bool true)) fun a0 =>
 R (.int .i64 k2) a0) else (
 R (.int .i64 k2) w)

theorem snapshot_Store_see.eq (s1 : Option Addr) (k2 : Int) (R : Value → World → Prop) (w : World) : mfunc Try.prog [] 38 [.pointer s1, .int .i64 k2] R w = snapshot_Store_see.M s1 k2 R w := by kernel_rfl
theorem snapshot_Store_see.ok (s1 : Option Addr) (k2 : Int) {R : Value → World → Prop} {w : World} (h : snapshot_Store_see.M s1 k2 R w) : Calls Try.prog 38 #[.pointer s1, .int .i64 k2] w fun e w' => ∃ v, e = .returned v ∧ R v w' :=
  mfunc_ok follows (H := []) (args := [.pointer s1, .int .i64 k2]) (by rw [snapshot_Store_see.eq]; exact h)

def snapshot_Store_see.N (s1 : Option Addr) (k2 : Int) (R : Value → World → Prop) (w : World) : Prop :=
 (k2 = 19 →
 ∃ a4 : Addr, s1 = some a4 ∧
 canStore w ((a4.add 4).add 0) ∧
 thenW (w.setCell ((a4.add 4).add 0) (.bool true)) fun a0 =>
 R (.int .i64 k2) a0) ∧
 (k2 ≠ 19 →
 R (.int .i64 k2) w)

theorem snapshot_Store_see.up (s1 : Option Addr) (k2 : Int) {R : Value → World → Prop} {w : World} (h : snapshot_Store_see.N s1 k2 R w) : snapshot_Store_see.M s1 k2 R w := by
  unfold snapshot_Store_see.M
  unfold snapshot_Store_see.N at h
  refine bif_of (fun c3 => ?_) (fun c3 => ?_)
  · have h := h.1 (beq_t c3)
    obtain ⟨a4, a0, h⟩ := h
    refine elim_some a0 ?_
    obtain ⟨hcs, h⟩ := h
    refine ⟨hcs, thenW_in fun a1 e5 => ?_⟩
    replace h := thenW_out h e5
    exact h
  · have h := h.2 (beq_f c3)
    exact h

theorem snapshot_Store_see.go (s1 : Option Addr) (k2 : Int) {R : Value → World → Prop} {w : World} (h : snapshot_Store_see.N s1 k2 R w) : Calls Try.prog 38 #[.pointer s1, .int .i64 k2] w fun e w' => ∃ v, e = .returned v ∧ R v w' := snapshot_Store_see.ok s1 k2 (snapshot_Store_see.up s1 k2 h)
theorem snapshot_Store_see.run (s1 : Option Addr) (k2 : Int) {V : Value} {Q : World → Prop} {w : World} (h : snapshot_Store_see.N s1 k2 (fun v w' => v = V ∧ Q w') w) : Calls Try.prog 38 #[.pointer s1, .int .i64 k2] w (Ret V Q) := (snapshot_Store_see.go s1 k2 h).mono fun e w' ⟨v, he, hv, hq⟩ => ⟨by rw [he, hv], hq⟩

/-- (*snapshot.Store).Compact$1 -/
def snapshot_Store_Compact_1.M (a0 : Addr) (R : Value → World → Prop) (w : World) : Prop :=
 ∃ (x2 : Int), w.cell? a0 = some (.int .i64 x2) ∧
 R (.int .i64 x2) w

theorem snapshot_Store_Compact_1.eq (cap1 : Addr) (R : Value → World → Prop) (w : World) : mfunc Try.prog [] 30 [.pointer (some cap1)] R w = snapshot_Store_Compact_1.M cap1 R w := by kernel_rfl
theorem snapshot_Store_Compact_1.ok (a0 : Addr) {R : Value → World → Prop} {w : World} (h : snapshot_Store_Compact_1.M a0 R w) : Calls Try.prog 30 #[.pointer (some a0)] w fun e w' => ∃ v, e = .returned v ∧ R v w' :=
  mfunc_ok follows (H := []) (args := [.pointer (some a0)]) (by rw [snapshot_Store_Compact_1.eq]; exact h)

def snapshot_Store_Compact_1.N (a0 : Addr) (R : Value → World → Prop) (w : World) : Prop :=
 ∃ (x3 : Int), w.cell? a0 = some (.int .i64 x3) ∧
 R (.int .i64 x3) w

theorem snapshot_Store_Compact_1.up (a0 : Addr) {R : Value → World → Prop} {w : World} (h : snapshot_Store_Compact_1.N a0 R w) : snapshot_Store_Compact_1.M a0 R w := by
  unfold snapshot_Store_Compact_1.M
  unfold snapshot_Store_Compact_1.N at h
  obtain ⟨x3, a1, h⟩ := h
  refine ⟨x3, a1, ?_⟩
  exact h

theorem snapshot_Store_Compact_1.go (a0 : Addr) {R : Value → World → Prop} {w : World} (h : snapshot_Store_Compact_1.N a0 R w) : Calls Try.prog 30 #[.pointer (some a0)] w fun e w' => ∃ v, e = .returned v ∧ R v w' := snapshot_Store_Compact_1.ok a0 (snapshot_Store_Compact_1.up a0 h)
theorem snapshot_Store_Compact_1.run (a0 : Addr) {V : Value} {Q : World → Prop} {w : World} (h : snapshot_Store_Compact_1.N a0 (fun v w' => v = V ∧ Q w') w) : Calls Try.prog 30 #[.pointer (some a0)] w (Ret V Q) := (snapshot_Store_Compact_1.go a0 h).mono fun e w' ⟨v, he, hv, hq⟩ => ⟨by rw [he, hv], hq⟩

/-- (*snapshot.Store).Compact$2 -/
def snapshot_Store_Compact_2.M (a1 : Addr) (a2 : Addr) (R : Value → World → Prop) (w : World) : Prop :=
 ∃ (x3 : Option Addr), w.cell? a1 = some (.pointer x3) ∧
 ∃ (a4 : Option Addr) (a5 : Nat) (a3 : Nat), w.cell? a2 = some (.slice a4 a5 a3) ∧
 Calls Try.prog 32 #[.pointer x3, .slice a4 a5 a3] w fun a6 a7 => ∃ (a0 : Int), a6 = .returned (.int .i64 a0) ∧
 R (.int .i64 a0) a7

theorem snapshot_Store_Compact_2.eq (cap1 : Addr) (cap2 : Addr) (R : Value → World → Prop) (w : World) : mfunc Try.prog [] 31 [.pointer (some cap1), .pointer (some cap2)] R w = snapshot_Store_Compact_2.M cap1 cap2 R w := by kernel_rfl
theorem snapshot_Store_Compact_2.ok (a0 : Addr) (a1 : Addr) {R : Value → World → Prop} {w : World} (h : snapshot_Store_Compact_2.M a0 a1 R w) : Calls Try.prog 31 #[.pointer (some a0), .pointer (some a1)] w fun e w' => ∃ v, e = .returned v ∧ R v w' :=
  mfunc_ok follows (H := []) (args := [.pointer (some a0), .pointer (some a1)]) (by rw [snapshot_Store_Compact_2.eq]; exact h)

def snapshot_Store_Compact_2.N (a1 : Addr) (a2 : Addr) (R : Value → World → Prop) (w : World) : Prop :=
 ∃ (x4 : Option Addr), w.cell? a1 = some (.pointer x4) ∧
 ∃ (a4 : Option Addr) (a5 : Nat) (a3 : Nat), w.cell? a2 = some (.slice a4 a5 a3) ∧
 Calls Try.prog 32 #[.pointer x4, .slice a4 a5 a3] w fun a7 a6 => ∃ (a0 : Int), a7 = .returned (.int .i64 a0) ∧
 R (.int .i64 a0) a6

theorem snapshot_Store_Compact_2.up (a1 : Addr) (a2 : Addr) {R : Value → World → Prop} {w : World} (h : snapshot_Store_Compact_2.N a1 a2 R w) : snapshot_Store_Compact_2.M a1 a2 R w := by
  unfold snapshot_Store_Compact_2.M
  unfold snapshot_Store_Compact_2.N at h
  obtain ⟨x4, a6, h⟩ := h
  refine ⟨x4, a6, ?_⟩
  obtain ⟨a5, a7, a3, a4, h⟩ := h
  refine ⟨a5, a7, a3, a4, ?_⟩
  refine h.mono fun a9 a8 h => ?_
  obtain ⟨a0, he, h⟩ := h
  refine ⟨a0, he, ?_⟩
  exact h

theorem snapshot_Store_Compact_2.go (a0 : Addr) (a1 : Addr) {R : Value → World → Prop} {w : World} (h : snapshot_Store_Compact_2.N a0 a1 R w) : Calls Try.prog 31 #[.pointer (some a0), .pointer (some a1)] w fun e w' => ∃ v, e = .returned v ∧ R v w' := snapshot_Store_Compact_2.ok a0 a1 (snapshot_Store_Compact_2.up a0 a1 h)
theorem snapshot_Store_Compact_2.run (a0 : Addr) (a1 : Addr) {V : Value} {Q : World → Prop} {w : World} (h : snapshot_Store_Compact_2.N a0 a1 (fun v w' => v = V ∧ Q w') w) : Calls Try.prog 31 #[.pointer (some a0), .pointer (some a1)] w (Ret V Q) := (snapshot_Store_Compact_2.go a0 a1 h).mono fun e w' ⟨v, he, hv, hq⟩ => ⟨by rw [he, hv], hq⟩

/-- (*snapshot.Store).Compact$3 -/
def snapshot_Store_Compact_3.M (a7 : Addr) (a9 : Addr) (R : Value → World → Prop) (w : World) : Prop :=
 thenW (w.drew) fun aa =>
 ∃ (x4 : Option Addr), aa.cell? a7 = some (.pointer x4) ∧
 x4.elim False fun a5 =>
 ∃ (d6 : Option Addr), aa.cell? (a5.add 0) = some (.pointer d6) ∧
 ∃ (x7 : Int), aa.cell? a9 = some (.int .u32 x7) ∧
 ∃ (x8 : Int), aa.cell? a9 = some (.int .u32 x8) ∧
 Calls Try.prog 35 #[.int .u32 x7] aa fun ab a6 => ∃ (a4 : Int), ab = .returned (.int .i64 a4) ∧
 a6.cell? a9 = some (.int .u32 x8) ∧
 a6.cell? (a5.add 0) = some (.pointer d6) ∧
 a6.cell? a7 = some (.pointer x4) ∧
 Calls Try.prog 36 #[.int .u32 x8] a6 fun ad a8 => ∃ (a2 : Option Addr) (a0 : Nat) (a3 : Nat), ad = .returned (.slice a2 a0 a3) ∧
 a8.cell? (a5.add 0) = some (.pointer d6) ∧
 a8.cell? a7 = some (.pointer x4) ∧
 Calls Try.prog 34 #[.pointer d6, .int .i64 a4, .slice a2 a0 a3] a8 fun ac ae => ∃ (a1 : Int), ac = .returned (.int .i64 a1) ∧
 R (.int .i64 a1) ae

theorem snapshot_Store_Compact_3.eq (cap1 : Addr) (cap2 : Addr) (R : Value → World → Prop) (w : World) : mfunc Try.prog [] 33 [.pointer (some cap1), .pointer (some cap2)] R w = snapshot_Store_Compact_3.M cap1 cap2 R w := by kernel_rfl
theorem snapshot_Store_Compact_3.ok (a0 : Addr) (a1 : Addr) {R : Value → World → Prop} {w : World} (h : snapshot_Store_Compact_3.M a0 a1 R w) : Calls Try.prog 33 #[.pointer (some a0), .pointer (some a1)] w fun e w' => ∃ v, e = .returned v ∧ R v w' :=
  mfunc_ok follows (H := []) (args := [.pointer (some a0), .pointer (some a1)]) (by rw [snapshot_Store_Compact_3.eq]; exact h)

def snapshot_Store_Compact_3.N (a8 : Addr) (a9 : Addr) (R : Value → World → Prop) (w : World) : Prop :=
 ∃ (x5 : Option Addr), w.cell? a8 = some (.pointer x5) ∧
 ∃ a6 : Addr, x5 = some a6 ∧
 ∃ (d8 : Option Addr), w.cell? (a6.add 0) = some (.pointer d8) ∧
 ∃ (ag : Int), w.cell? a9 = some (.int .u32 ag) ∧
 ∃ (ab : Int), w.cell? a9 = some (.int .u32 ab) ∧
 ∀ (af : World), Ext no w af →
 Calls Try.prog 35 #[.int .u32 ag] af fun aa a5 => ∃ (a4 : Int), aa = .returned (.int .i64 a4) ∧
 a5.cell? a9 = some (.int .u32 ab) ∧
 a5.cell? (a6.add 0) = some (.pointer d8) ∧
 a5.cell? a8 = some (.pointer x5) ∧
 Calls Try.prog 36 #[.int .u32 ab] a5 fun ae a7 => ∃ (a3 : Option Addr) (a2 : Nat) (a1 : Nat), ae = .returned (.slice a3 a2 a1) ∧
 a7.cell? (a6.add 0) = some (.pointer d8) ∧
 a7.cell? a8 = some (.pointer x5) ∧
 Calls Try.prog 34 #[.pointer d8, .int .i64 a4, .slice a3 a2 a1] a7 fun ac ad => ∃ (a0 : Int), ac = .returned (.int .i64 a0) ∧
 R (.int .i64 a0) ad

theorem snapshot_Store_Compact_3.up (a8 : Addr) (a5 : Addr) {R : Value → World → Prop} {w : World} (h : snapshot_Store_Compact_3.N a8 a5 R w) : snapshot_Store_Compact_3.M a8 a5 R w := by
  unfold snapshot_Store_Compact_3.M
  unfold snapshot_Store_Compact_3.N at h
  refine thenW_in fun ar e3 => ?_
  have a7 := (Ext.refl no w).x_drew e3
  obtain ⟨x5, ap, h⟩ := h
  refine ⟨x5, (a7).cell ap id, ?_⟩
  obtain ⟨a6, ah, h⟩ := h
  refine elim_some ah ?_
  obtain ⟨d8, ai, h⟩ := h
  refine ⟨d8, (a7).cell ai id, ?_⟩
  obtain ⟨aq, al, h⟩ := h
  refine ⟨aq, (a7).cell al id, ?_⟩
  obtain ⟨aj, ac, h⟩ := h
  refine ⟨aj, (a7).cell ac id, ?_⟩
  have h := h ar a7
  refine h.mono fun ag ao h => ?_
  obtain ⟨a2, he, h⟩ := h
  refine ⟨a2, he, ?_⟩
  obtain ⟨a9, aa, ad, h⟩ := h
  refine ⟨a9, aa, ad, ?_⟩
  refine h.mono fun ak af h => ?_
  obtain ⟨a4, a1, a3, he, h⟩ := h
  refine ⟨a4, a1, a3, he, ?_⟩
  obtain ⟨ab, ae, h⟩ := h
  refine ⟨ab, ae, ?_⟩
  refine h.mono fun am an h => ?_
  obtain ⟨a0, he, h⟩ := h
  refine ⟨a0, he, ?_⟩
  exact h

theorem snapshot_Store_Compact_3.go (a0 : Addr) (a1 : Addr) {R : Value → World → Prop} {w : World} (h : snapshot_Store_Compact_3.N a0 a1 R w) : Calls Try.prog 33 #[.pointer (some a0), .pointer (some a1)] w fun e w' => ∃ v, e = .returned v ∧ R v w' := snapshot_Store_Compact_3.ok a0 a1 (snapshot_Store_Compact_3.up a0 a1 h)
theorem snapshot_Store_Compact_3.run (a0 : Addr) (a1 : Addr) {V : Value} {Q : World → Prop} {w : World} (h : snapshot_Store_Compact_3.N a0 a1 (fun v w' => v = V ∧ Q w') w) : Calls Try.prog 33 #[.pointer (some a0), .pointer (some a1)] w (Ret V Q) := (snapshot_Store_Compact_3.go a0 a1 h).mono fun e w' ⟨v, he, hv, hq⟩ => ⟨by rw [he, hv], hq⟩

/-- (*snapshot.Store).Compact -/
def snapshot_Store_Compact.M (s1 : Option Addr) (jo : Option Addr) (jf : Nat) (ji : Nat) (R : Value → World → Prop) (w : World) : Prop :=
 thenW (w.alloc (.cells #[.pointer s1] 29)) fun dv =>
 thenW (dv.alloc (.cells #[.slice jo jf ji] 30)) fun os =>
 ∃ (x5 : Option Addr), os.cell? (blk w.heap.size) = some (.pointer x5) ∧
 bif Option.isNone x5 then (
 R (.int .i64 23) os) else (
 ∃ (qc : Option Addr) (q0 : Nat) (qe : Nat), os.cell? (blk dv.heap.size) = some (.slice qc q0 qe) ∧
 Calls Try.prog 28 #[.int .i64 (q0 : Int)] os fun qd a2 => ∃ (ch : Int), qd = .returned (.int .i64 ch) ∧
 bif ch == 0 then (
 R (.int .i64 3) a2) else (
 ∃ (q2 : Option Addr), a2.cell? (blk w.heap.size) = some (.pointer q2) ∧
 q2.elim False fun qb =>
 ∃ (e7 : Bool), a2.cell? (qb.add 4) = some (.bool e7) ∧
 bif e7 then (
 R (.int .i64 19) a2) else (
 ∃ (q4 : Option Addr), a2.cell? (blk w.heap.size) = some (.pointer q4) ∧
 q4.elim False fun q9 =>
 ∃ (br : Int), a2.cell? (q9.add 2) = some (.int .u32 br) ∧
 bif br == 4294967295 then (
 R (.int .i64 2) a2) else (
 ∃ (q7 : Option Addr), a2.cell? (blk w.heap.size) = some (.pointer q7) ∧
 q7.elim False fun qa =>
 ∃ (f0 : Int), a2.cell? (qa.add 1) = some (.int .i64 f0) ∧
 bif decide (ch > f0) then (
 R (.int .i64 18) a2) else (
 ∃ (py : Option Addr), a2.cell? (blk w.heap.size) = some (.pointer py) ∧
 py.elim False fun qh =>
 ∃ (bq : Int), a2.cell? (qh.add 2) = some (.int .u32 bq) ∧
 thenW (a2.alloc (.cells #[.int .u32 0] 34)) fun m3 =>
 canStore m3 ((blk a2.heap.size).add 0) ∧
 thenW (m3.setCell ((blk a2.heap.size).add 0) (.int .u32 (IntKind.u32.wrap (bq + 1)))) fun pc =>
 thenW (pc.drew) fun a1 =>
 ∃ (bs : Option Addr), a1.cell? (blk w.heap.size) = some (.pointer bs) ∧
 bs.elim False fun bu =>
 ∃ (ab : Option Addr), a1.cell? (bu.add 0) = some (.pointer ab) ∧
 ∃ (fz : Option Addr), a1.cell? (blk w.heap.size) = some (.pointer fz) ∧
 ∃ (g0 : Int), a1.cell? (blk a2.heap.size) = some (.int .u32 g0) ∧
 ∃ (bp : Option Addr), a1.cell? (blk w.heap.size) = some (.pointer bp) ∧
 bp.elim False fun bt =>
 ∃ (a0 : Int), a1.cell? (bt.add 1) = some (.int .i64 a0) ∧
 ∃ (ac : Int), a1.cell? (blk a2.heap.size) = some (.int .u32 ac) ∧
 (Calls Try.prog 27 #[.pointer fz, .int .u32 g0] a1 fun oz a3 => ∃ (aa : Int), oz = .returned (.int .i64 aa) ∧
 a3.cell? (blk a2.heap.size) = some (.int .u32 ac) ∧
 a3.cell? (bt.add 1) = some (.int .i64 a0) ∧
 a3.cell? (blk w.heap.size) = some (.pointer bp) ∧
 a3.cell? (bu.add 0) = some (.pointer ab) ∧
 a3.cell? (blk w.heap.size) = some (.pointer bs) ∧
 (Calls Try.prog 29 #[.pointer ab, .int .i64 aa, .int .i64 a0, .int .u32 ac] a3 fun p2 ah => ∃ (ag : Option Addr) (af : Int), p2 = .returned (.tuple #[.pointer ag, .int .i64 af]) ∧
 (thenW (ah.alloc (.cells #[.pointer none] 58)) fun g4 =>
 thenW (g4.alloc (.cells #[.int .i64 0] 26)) fun oj =>
 canStore oj ((blk ah.heap.size).add 0) ∧
 thenW (oj.setCell ((blk ah.heap.size).add 0) (.pointer ag)) fun m7 =>
 canStore m7 ((blk g4.heap.size).add 0) ∧
 thenW (m7.setCell ((blk g4.heap.size).add 0) (.int .i64 af)) fun g5 =>
 ∃ (ps : Option Addr), g5.cell? (blk w.heap.size) = some (.pointer ps) ∧
 ps.elim False fun qi =>
 ∃ (pw : Option Addr), g5.cell? (qi.add 0) = some (.pointer pw) ∧
 thenW (g5.alloc (.cells #[.func (.func 30) #[] #[.pointer (some (blk g4.heap.size))], .func (.func 31) #[] #[.pointer (some (blk ah.heap.size)), .pointer (some (blk dv.heap.size))], .func (.func 33) #[] #[.pointer (some (blk w.heap.size)), .pointer (some (blk a2.heap.size))], .func (.func 37) #[.pointer pw] #[]] 68)) fun p5 =>
 ∃ (I1 : Nat → List Value → World → Prop) (q8 : Nat), I1 q8 [.int .i64 0] p5 ∧ ∀ (pa : Nat) (g1 : World) (jt : Int), I1 pa [.int .i64 jt] g1 →
 bif decide (jt < (4 : Int)) then (
 0 ≤ (jt : Int) ∧ (jt : Int) < (4 : Int) ∧
 ∃ (g3 : Nat) (jb : Array Value) (jr : Array Value), g1.cell? ((blk g5.heap.size).add (Int.toNat jt * 1)) = some (.func (.func g3) jb jr) ∧
 thenW (g1.drew) fun jc =>
 ∃ (o1 : Option Addr), jc.cell? (blk w.heap.size) = some (.pointer o1) ∧
 bif enters Try.prog g3 then Calls Try.prog g3 (jb.toList ++ ([] : List Value) ++ jr.toList).toArray jc (fun ot lf => ∃ (o7 : Int), ot = .returned (.int .i64 o7) ∧
 lf.cell? (blk w.heap.size) = some (.pointer o1) ∧
 Calls Try.prog 38 #[.pointer o1, .int .i64 o7] lf fun p4 op => ∃ (e8 : Int), p4 = .returned (.int .i64 e8) ∧
 bif e8 != 0 then (
 R (.int .i64 e8) op) else (
 ∃ px, px < pa ∧ I1 px [.int .i64 (IntKind.i64.wrap (jt + 1))] op)) else (∃ (o7 : Int) (jl : World), (externCall g3 (jb.toList ++ ([] : List Value) ++ jr.toList).toArray).run Try.prog jc = .ok (.int .i64 o7) jl ∧
 jl.cell? (blk w.heap.size) = some (.pointer o1) ∧
 Calls Try.prog 38 #[.pointer o1, .int .i64 o7] jl fun pq ln => ∃ (ee : Int), pq = .returned (.int .i64 ee) ∧
 bif ee != 0 then (
 R (.int .i64 ee) ln) else (
 ∃ pz, pz < pa ∧ I1 pz [.int .i64 (IntKind.i64.wrap (jt + 1))] ln))) else (
 thenW (g1.drew) fun e4 =>
 ∃ (q6 : Option Addr), e4.cell? (blk w.heap.size) = some (.pointer q6) ∧
 ∃ (ow : Option Addr), e4.cell? (blk w.heap.size) = some (.pointer ow) ∧
 ∃ (pv : Int), e4.cell? (blk a2.heap.size) = some (.int .u32 pv) ∧
 ∃ (p1 : Option Addr), e4.cell? (blk ah.heap.size) = some (.pointer p1) ∧
 q6.elim False fun pt =>
 canStore e4 ((pt.add 2).add 0) ∧
 thenW (e4.setCell ((pt.add 2).add 0) (.int .u32 pv)) fun g2 =>
 g2.cell? (blk ah.heap.size) = some (.pointer p1) ∧
 g2.cell? (blk w.heap.size) = some (.pointer ow) ∧
 ow.elim False fun q1 =>
 canStore g2 ((q1.add 3).add 0) ∧
 thenW (g2.setCell ((q1.add 3).add 0) (.pointer p1)) fun pe =>
 R (.int .i64 0) pe)) ∧
 (thenW (ah.alloc (.cells #[.int .i64 0] 26)) fun e3 =>
 thenW (e3.alloc (.cells #[.pointer none] 58)) fun kw =>
 canStore kw ((blk e3.heap.size).add 0) ∧
 thenW (kw.setCell ((blk e3.heap.size).add 0) (.pointer ag)) fun lw =>
 canStore lw ((blk ah.heap.size).add 0) ∧
 thenW (lw.setCell ((blk ah.heap.size).add 0) (.int .i64 af)) fun g6 =>
 ∃ (pu : Option Addr), g6.cell? (blk w.heap.size) = some (.pointer pu) ∧
 pu.elim False fun qg =>
 ∃ (q5 : Option Addr), g6.cell? (qg.add 0) = some (.pointer q5) ∧
 thenW (g6.alloc (.cells #[.func (.func 30) #[] #[.pointer (some (blk ah.heap.size))], .func (.func 31) #[] #[.pointer (some (blk e3.heap.size)), .pointer (some (blk dv.heap.size))], .func (.func 33) #[] #[.pointer (some (blk w.heap.size)), .pointer (some (blk a2.heap.size))], .func (.func 37) #[.pointer q5] #[]] 68)) fun pd =>
 ∃ (I1 : Nat → List Value → World → Prop) (qf : Nat), I1 qf [.int .i64 0] pd ∧ ∀ (pk : Nat) (g8 : World) (iz : Int), I1 pk [.int .i64 iz] g8 →
 bif decide (iz < (4 : Int)) then (
 0 ≤ (iz : Int) ∧ (iz : Int) < (4 : Int) ∧
 ∃ (g7 : Nat) (j1 : Array Value) (jk : Array Value), g8.cell? ((blk g6.heap.size).add (Int.toNat iz * 1)) = some (.func (.func g7) j1 jk) ∧
 thenW (g8.drew) fun ix =>
 ∃ (kz : Option Addr), ix.cell? (blk w.heap.size) = some (.pointer kz) ∧
 bif enters Try.prog g7 then Calls Try.prog g7 (j1.toList ++ ([] : List Value) ++ jk.toList).toArray ix (fun pb ki => ∃ (mg : Int), pb = .returned (.int .i64 mg) ∧
 ki.cell? (blk w.heap.size) = some (.pointer kz) ∧
 Calls Try.prog 38 #[.pointer kz, .int .i64 mg] ki fun po n9 => ∃ (fb : Int), po = .returned (.int .i64 fb) ∧
 bif fb != 0 then (
 R (.int .i64 fb) n9) else (
 ∃ q3, q3 < pk ∧ I1 q3 [.int .i64 (IntKind.i64.wrap (iz + 1))] n9)) else (∃ (mg : Int) (it : World), (externCall g7 (j1.toList ++ ([] : List Value) ++ jk.toList).toArray).run Try.prog ix = .ok (.int .i64 mg) it ∧
 it.cell? (blk w.heap.size) = some (.pointer kz) ∧
 Calls Try.prog 38 #[.pointer kz, .int .i64 mg] it fun ne gq => ∃ (bz : Int), ne = .returned (.int .i64 bz) ∧
 bif bz != 0 then (
 R (.int .i64 bz) gq) else (
 ∃ lq, lq < pk ∧ I1 lq [.int .i64 (IntKind.i64.wrap (iz + 1))] gq))) else (
 thenW (g8.drew) fun bf =>
 ∃ (ny : Option Addr), bf.cell? (blk w.heap.size) = some (.pointer ny) ∧
 ∃ (jw : Option Addr), bf.cell? (blk w.heap.size) = some (.pointer jw) ∧
 ∃ (na : Int), bf.cell? (blk a2.heap.size) = some (.int .u32 na) ∧
 ∃ (j9 : Option Addr), bf.cell? (blk e3.heap.size) = some (.pointer j9) ∧
 ny.elim False fun nq =>
 canStore bf ((nq.add 2).add 0) ∧
 thenW (bf.setCell ((nq.add 2).add 0) (.int .u32 na)) fun cw =>
 cw.cell? (blk e3.heap.size) = some (.pointer j9) ∧
 cw.cell? (blk w.heap.size) = some (.pointer jw) ∧
 jw.elim False fun mq =>
 canStore cw ((mq.add 3).add 0) ∧
 thenW (cw.setCell ((mq.add 3).add 0) (.pointer j9)) fun ol =>
 R (.int .i64 0) ol))) ∧
 (thenW (a3.alloc (.cells #[.pointer none] 58)) fun a9 =>
 a9.cell? (blk a2.heap.size) = some (.int .u32 ac) ∧
 a9.cell? (bt.add 1) = some (.int .i64 a0) ∧
 a9.cell? (blk w.heap.size) = some (.pointer bp) ∧
 a9.cell? (bu.add 0) = some (.pointer ab) ∧
 a9.cell? (blk w.heap.size) = some (.pointer bs) ∧
 (Calls Try.prog 29 #[.pointer ab, .int .i64 aa, .int .i64 a0, .int .u32 ac] a9 fun nh cx => ∃ (bh : Option Addr) (ba : Int), nh = .returned (.tuple #[.pointer bh, .int .i64 ba]) ∧
 thenW (cx.alloc (.cells #[.int .i64 0] 26)) fun gj =>
 canStore gj ((blk a3.heap.size).add 0) ∧
 thenW (gj.setCell ((blk a3.heap.size).add 0) (.pointer bh)) fun ia =>
 canStore ia ((blk cx.heap.size).add 0) ∧
 thenW (ia.setCell ((blk cx.heap.size).add 0) (.int .i64 ba)) fun d4 =>
 ∃ (ll : Option Addr), d4.cell? (blk w.heap.size) = some (.pointer ll) ∧
 ll.elim False fun pj =>
 ∃ (le : Option Addr), d4.cell? (pj.add 0) = some (.pointer le) ∧
 thenW (d4.alloc (.cells #[.func (.func 30) #[] #[.pointer (some (blk cx.heap.size))], .func (.func 31) #[] #[.pointer (some (blk a3.heap.size)), .pointer (some (blk dv.heap.size))], .func (.func 33) #[] #[.pointer (some (blk w.heap.size)), .pointer (some (blk a2.heap.size))], .func (.func 37) #[.pointer le] #[]] 68)) fun mi =>
 ∃ (I1 : Nat → List Value → World → Prop) (pr : Nat), I1 pr [.int .i64 0] mi ∧ ∀ (k0 : Nat) (ct : World) (c6 : Int), I1 k0 [.int .i64 c6] ct →
 bif decide (c6 < (4 : Int)) then (
 0 ≤ (c6 : Int) ∧ (c6 : Int) < (4 : Int) ∧
 ∃ (d9 : Nat) (ec : Array Value) (fc : Array Value), ct.cell? ((blk d4.heap.size).add (Int.toNat c6 * 1)) = some (.func (.func d9) ec fc) ∧
 thenW (ct.drew) fun fs =>
 ∃ (ek : Option Addr), fs.cell? (blk w.heap.size) = some (.pointer ek) ∧
 bif enters Try.prog d9 then Calls Try.prog d9 (ec.toList ++ ([] : List Value) ++ fc.toList).toArray fs (fun oe gu => ∃ (fo : Int), oe = .returned (.int .i64 fo) ∧
 gu.cell? (blk w.heap.size) = some (.pointer ek) ∧
 Calls Try.prog 38 #[.pointer ek, .int .i64 fo] gu fun kv io => ∃ (ck : Int), kv = .returned (.int .i64 ck) ∧
 bif ck != 0 then (
 R (.int .i64 ck) io) else (
 ∃ mb, mb < k0 ∧ I1 mb [.int .i64 (IntKind.i64.wrap (c6 + 1))] io)) else (∃ (fo : Int) (fp : World), (externCall d9 (ec.toList ++ ([] : List Value) ++ fc.toList).toArray).run Try.prog fs = .ok (.int .i64 fo) fp ∧
 fp.cell? (blk w.heap.size) = some (.pointer ek) ∧
 Calls Try.prog 38 #[.pointer ek, .int .i64 fo] fp fun mo gf => ∃ (ci : Int), mo = .returned (.int .i64 ci) ∧
 bif ci != 0 then (
 R (.int .i64 ci) gf) else (
 ∃ kl, kl < k0 ∧ I1 kl [.int .i64 (IntKind.i64.wrap (c6 + 1))] gf))) else (
 thenW (ct.drew) fun b8 =>
 ∃ (lv : Option Addr), b8.cell? (blk w.heap.size) = some (.pointer lv) ∧
 ∃ (iu : Option Addr), b8.cell? (blk w.heap.size) = some (.pointer iu) ∧
 ∃ (k6 : Int), b8.cell? (blk a2.heap.size) = some (.int .u32 k6) ∧
 ∃ (j3 : Option Addr), b8.cell? (blk a3.heap.size) = some (.pointer j3) ∧
 lv.elim False fun kd =>
 canStore b8 ((kd.add 2).add 0) ∧
 thenW (b8.setCell ((kd.add 2).add 0) (.int .u32 k6)) fun dy =>
 dy.cell? (blk a3.heap.size) = some (.pointer j3) ∧
 dy.cell? (blk w.heap.size) = some (.pointer iu) ∧
 iu.elim False fun m8 =>
 canStore dy ((m8.add 3).add 0) ∧
 thenW (dy.setCell ((m8.add 3).add 0) (.pointer j3)) fun k8 =>
 R (.int .i64 0) k8)) ∧
 (thenW (a9.alloc (.cells #[.int .i64 0] 26)) fun b0 =>
 b0.cell? (blk a2.heap.size) = some (.int .u32 ac) ∧
 b0.cell? (bt.add 1) = some (.int .i64 a0) ∧
 b0.cell? (blk w.heap.size) = some (.pointer bp) ∧
 b0.cell? (bu.add 0) = some (.pointer ab) ∧
 b0.cell? (blk w.heap.size) = some (.pointer bs) ∧
 Calls Try.prog 29 #[.pointer ab, .int .i64 aa, .int .i64 a0, .int .u32 ac] b0 fun l4 i8 => ∃ (b4 : Option Addr) (ak : Int), l4 = .returned (.tuple #[.pointer b4, .int .i64 ak]) ∧
 canStore i8 ((blk a3.heap.size).add 0) ∧
 thenW (i8.setCell ((blk a3.heap.size).add 0) (.pointer b4)) fun gm =>
 canStore gm ((blk a9.heap.size).add 0) ∧
 thenW (gm.setCell ((blk a9.heap.size).add 0) (.int .i64 ak)) fun cs =>
 ∃ (oc : Option Addr), cs.cell? (blk w.heap.size) = some (.pointer oc) ∧
 oc.elim False fun p6 =>
 ∃ (nv : Option Addr), cs.cell? (p6.add 0) = some (.pointer nv) ∧
 thenW (cs.alloc (.cells #[.func (.func 30) #[] #[.pointer (some (blk a9.heap.size))], .func (.func 31) #[] #[.pointer (some (blk a3.heap.size)), .pointer (some (blk dv.heap.size))], .func (.func 33) #[] #[.pointer (some (blk w.heap.size)), .pointer (some (blk a2.heap.size))], .func (.func 37) #[.pointer nv] #[]] 68)) fun ms =>
 ∃ (I1 : Nat → List Value → World → Prop) (ou : Nat), I1 ou [.int .i64 0] ms ∧ ∀ (jp : Nat) (dh : World) (c2 : Int), I1 jp [.int .i64 c2] dh →
 bif decide (c2 < (4 : Int)) then (
 0 ≤ (c2 : Int) ∧ (c2 : Int) < (4 : Int) ∧
 ∃ (de : Nat) (fl : Array Value) (eg : Array Value), dh.cell? ((blk cs.heap.size).add (Int.toNat c2 * 1)) = some (.func (.func de) fl eg) ∧
 thenW (dh.drew) fun ey =>
 ∃ (fa : Option Addr), ey.cell? (blk w.heap.size) = some (.pointer fa) ∧
 bif enters Try.prog de then Calls Try.prog de (fl.toList ++ ([] : List Value) ++ eg.toList).toArray ey (fun md g9 => ∃ (f1 : Int), md = .returned (.int .i64 f1) ∧
 g9.cell? (blk w.heap.size) = some (.pointer fa) ∧
 Calls Try.prog 38 #[.pointer fa, .int .i64 f1] g9 fun nk gd => ∃ (cj : Int), nk = .returned (.int .i64 cj) ∧
 bif cj != 0 then (
 R (.int .i64 cj) gd) else (
 ∃ k9, k9 < jp ∧ I1 k9 [.int .i64 (IntKind.i64.wrap (c2 + 1))] gd)) else (∃ (f1 : Int) (fu : World), (externCall de (fl.toList ++ ([] : List Value) ++ eg.toList).toArray).run Try.prog ey = .ok (.int .i64 f1) fu ∧
 fu.cell? (blk w.heap.size) = some (.pointer fa) ∧
 Calls Try.prog 38 #[.pointer fa, .int .i64 f1] fu fun o9 gt => ∃ (ce : Int), o9 = .returned (.int .i64 ce) ∧
 bif ce != 0 then (
 R (.int .i64 ce) gt) else (
 ∃ ng, ng < jp ∧ I1 ng [.int .i64 (IntKind.i64.wrap (c2 + 1))] gt))) else (
 thenW (dh.drew) fun aq =>
 ∃ (kj : Option Addr), aq.cell? (blk w.heap.size) = some (.pointer kj) ∧
 ∃ (jj : Option Addr), aq.cell? (blk w.heap.size) = some (.pointer jj) ∧
 ∃ (nr : Int), aq.cell? (blk a2.heap.size) = some (.int .u32 nr) ∧
 ∃ (j7 : Option Addr), aq.cell? (blk a3.heap.size) = some (.pointer j7) ∧
 kj.elim False fun mz =>
 canStore aq ((mz.add 2).add 0) ∧
 thenW (aq.setCell ((mz.add 2).add 0) (.int .u32 nr)) fun d1 =>
 d1.cell? (blk a3.heap.size) = some (.pointer j7) ∧
 d1.cell? (blk w.heap.size) = some (.pointer jj) ∧
 jj.elim False fun m1 =>
 canStore d1 ((m1.add 3).add 0) ∧
 thenW (d1.setCell ((m1.add 3).add 0) (.pointer j7)) fun lx =>
 R (.int .i64 0) lx))) ∧
 (thenW (a3.alloc (.cells #[.int .i64 0] 26)) fun a7 =>
 a7.cell? (blk a2.heap.size) = some (.int .u32 ac) ∧
 a7.cell? (bt.add 1) = some (.int .i64 a0) ∧
 a7.cell? (blk w.heap.size) = some (.pointer bp) ∧
 a7.cell? (bu.add 0) = some (.pointer ab) ∧
 a7.cell? (blk w.heap.size) = some (.pointer bs) ∧
 (Calls Try.prog 29 #[.pointer ab, .int .i64 aa, .int .i64 a0, .int .u32 ac] a7 fun kc b7 => ∃ (bi : Option Addr) (az : Int), kc = .returned (.tuple #[.pointer bi, .int .i64 az]) ∧
 thenW (b7.alloc (.cells #[.pointer none] 58)) fun ih =>
 canStore ih ((blk b7.heap.size).add 0) ∧
 thenW (ih.setCell ((blk b7.heap.size).add 0) (.pointer bi)) fun gr =>
 canStore gr ((blk a3.heap.size).add 0) ∧
 thenW (gr.setCell ((blk a3.heap.size).add 0) (.int .i64 az)) fun d6 =>
 ∃ (lp : Option Addr), d6.cell? (blk w.heap.size) = some (.pointer lp) ∧
 lp.elim False fun oy =>
 ∃ (l7 : Option Addr), d6.cell? (oy.add 0) = some (.pointer l7) ∧
 thenW (d6.alloc (.cells #[.func (.func 30) #[] #[.pointer (some (blk a3.heap.size))], .func (.func 31) #[] #[.pointer (some (blk b7.heap.size)), .pointer (some (blk dv.heap.size))], .func (.func 33) #[] #[.pointer (some (blk w.heap.size)), .pointer (some (blk a2.heap.size))], .func (.func 37) #[.pointer l7] #[]] 68)) fun nz =>
 ∃ (I1 : Nat → List Value → World → Prop) (pg : Nat), I1 pg [.int .i64 0] nz ∧ ∀ (js : Nat) (cy : World) (c0 : Int), I1 js [.int .i64 c0] cy →
 bif decide (c0 < (4 : Int)) then (
 0 ≤ (c0 : Int) ∧ (c0 : Int) < (4 : Int) ∧
 ∃ (dn : Nat) (en : Array Value) (fi : Array Value), cy.cell? ((blk d6.heap.size).add (Int.toNat c0 * 1)) = some (.func (.func dn) en fi) ∧
 thenW (cy.drew) fun eo =>
 ∃ (ej : Option Addr), eo.cell? (blk w.heap.size) = some (.pointer ej) ∧
 bif enters Try.prog dn then Calls Try.prog dn (en.toList ++ ([] : List Value) ++ fi.toList).toArray eo (fun kk i2 => ∃ (f8 : Int), kk = .returned (.int .i64 f8) ∧
 i2.cell? (blk w.heap.size) = some (.pointer ej) ∧
 Calls Try.prog 38 #[.pointer ej, .int .i64 f8] i2 fun mp ij => ∃ (cq : Int), mp = .returned (.int .i64 cq) ∧
 bif cq != 0 then (
 R (.int .i64 cq) ij) else (
 ∃ m4, m4 < js ∧ I1 m4 [.int .i64 (IntKind.i64.wrap (c0 + 1))] ij)) else (∃ (f8 : Int) (fr : World), (externCall dn (en.toList ++ ([] : List Value) ++ fi.toList).toArray).run Try.prog eo = .ok (.int .i64 f8) fr ∧
 fr.cell? (blk w.heap.size) = some (.pointer ej) ∧
 Calls Try.prog 38 #[.pointer ej, .int .i64 f8] fr fun n8 ip => ∃ (bv : Int), n8 = .returned (.int .i64 bv) ∧
 bif bv != 0 then (
 R (.int .i64 bv) ip) else (
 ∃ lu, lu < js ∧ I1 lu [.int .i64 (IntKind.i64.wrap (c0 + 1))] ip))) else (
 thenW (cy.drew) fun b2 =>
 ∃ (l0 : Option Addr), b2.cell? (blk w.heap.size) = some (.pointer l0) ∧
 ∃ (ja : Option Addr), b2.cell? (blk w.heap.size) = some (.pointer ja) ∧
 ∃ (kx : Int), b2.cell? (blk a2.heap.size) = some (.int .u32 kx) ∧
 ∃ (jy : Option Addr), b2.cell? (blk b7.heap.size) = some (.pointer jy) ∧
 l0.elim False fun n4 =>
 canStore b2 ((n4.add 2).add 0) ∧
 thenW (b2.setCell ((n4.add 2).add 0) (.int .u32 kx)) fun cv =>
 cv.cell? (blk b7.heap.size) = some (.pointer jy) ∧
 cv.cell? (blk w.heap.size) = some (.pointer ja) ∧
 ja.elim False fun l1 =>
 canStore cv ((l1.add 3).add 0) ∧
 thenW (cv.setCell ((l1.add 3).add 0) (.pointer jy)) fun nf =>
 R (.int .i64 0) nf)) ∧
 (thenW (a7.alloc (.cells #[.pointer none] 58)) fun bj =>
 bj.cell? (blk a2.heap.size) = some (.int .u32 ac) ∧
 bj.cell? (bt.add 1) = some (.int .i64 a0) ∧
 bj.cell? (blk w.heap.size) = some (.pointer bp) ∧
 bj.cell? (bu.add 0) = some (.pointer ab) ∧
 bj.cell? (blk w.heap.size) = some (.pointer bs) ∧
 Calls Try.prog 29 #[.pointer ab, .int .i64 aa, .int .i64 a0, .int .u32 ac] bj fun ks i6 => ∃ (an : Option Addr) (bm : Int), ks = .returned (.tuple #[.pointer an, .int .i64 bm]) ∧
 canStore i6 ((blk a7.heap.size).add 0) ∧
 thenW (i6.setCell ((blk a7.heap.size).add 0) (.pointer an)) fun im =>
 canStore im ((blk a3.heap.size).add 0) ∧
 thenW (im.setCell ((blk a3.heap.size).add 0) (.int .i64 bm)) fun dq =>
 ∃ (kh : Option Addr), dq.cell? (blk w.heap.size) = some (.pointer kh) ∧
 kh.elim False fun p7 =>
 ∃ (n6 : Option Addr), dq.cell? (p7.add 0) = some (.pointer n6) ∧
 thenW (dq.alloc (.cells #[.func (.func 30) #[] #[.pointer (some (blk a3.heap.size))], .func (.func 31) #[] #[.pointer (some (blk a7.heap.size)), .pointer (some (blk dv.heap.size))], .func (.func 33) #[] #[.pointer (some (blk w.heap.size)), .pointer (some (blk a2.heap.size))], .func (.func 37) #[.pointer n6] #[]] 68)) fun ke =>
 ∃ (I1 : Nat → List Value → World → Prop) (ox : Nat), I1 ox [.int .i64 0] ke ∧ ∀ (j0 : Nat) (e1 : World) (cc : Int), I1 j0 [.int .i64 cc] e1 →
 bif decide (cc < (4 : Int)) then (
 0 ≤ (cc : Int) ∧ (cc : Int) < (4 : Int) ∧
 ∃ (db : Nat) (fv : Array Value) (fh : Array Value), e1.cell? ((blk dq.heap.size).add (Int.toNat cc * 1)) = some (.func (.func db) fv fh) ∧
 thenW (e1.drew) fun ff =>
 ∃ (ed : Option Addr), ff.cell? (blk w.heap.size) = some (.pointer ed) ∧
 bif enters Try.prog db then Calls Try.prog db (fv.toList ++ ([] : List Value) ++ fh.toList).toArray ff (fun o6 i9 => ∃ (ew : Int), o6 = .returned (.int .i64 ew) ∧
 i9.cell? (blk w.heap.size) = some (.pointer ed) ∧
 Calls Try.prog 38 #[.pointer ed, .int .i64 ew] i9 fun oq ga => ∃ (cg : Int), oq = .returned (.int .i64 cg) ∧
 bif cg != 0 then (
 R (.int .i64 cg) ga) else (
 ∃ mr, mr < j0 ∧ I1 mr [.int .i64 (IntKind.i64.wrap (cc + 1))] ga)) else (∃ (ew : Int) (ei : World), (externCall db (fv.toList ++ ([] : List Value) ++ fh.toList).toArray).run Try.prog ff = .ok (.int .i64 ew) ei ∧
 ei.cell? (blk w.heap.size) = some (.pointer ed) ∧
 Calls Try.prog 38 #[.pointer ed, .int .i64 ew] ei fun lo gb => ∃ (c1 : Int), lo = .returned (.int .i64 c1) ∧
 bif c1 != 0 then (
 R (.int .i64 c1) gb) else (
 ∃ nu, nu < j0 ∧ I1 nu [.int .i64 (IntKind.i64.wrap (cc + 1))] gb))) else (
 thenW (e1.drew) fun bd =>
 ∃ (m2 : Option Addr), bd.cell? (blk w.heap.size) = some (.pointer m2) ∧
 ∃ (iv : Option Addr), bd.cell? (blk w.heap.size) = some (.pointer iv) ∧
 ∃ (lk : Int), bd.cell? (blk a2.heap.size) = some (.int .u32 lk) ∧
 ∃ (jd : Option Addr), bd.cell? (blk a7.heap.size) = some (.pointer jd) ∧
 m2.elim False fun mn =>
 canStore bd ((mn.add 2).add 0) ∧
 thenW (bd.setCell ((mn.add 2).add 0) (.int .u32 lk)) fun du =>
 du.cell? (blk a7.heap.size) = some (.pointer jd) ∧
 du.cell? (blk w.heap.size) = some (.pointer iv) ∧
 iv.elim False fun mx =>
 canStore du ((mx.add 3).add 0) ∧
 thenW (du.setCell ((mx.add 3).add 0) (.pointer jd)) fun mc =>
 R (.int .i64 0) mc)))) ∧
 (thenW (a1.alloc (.cells #[.pointer none] 58)) fun a6 =>
 a6.cell? (blk a2.heap.size) = some (.int .u32 ac) ∧
 a6.cell? (bt.add 1) = some (.int .i64 a0) ∧
 a6.cell? (blk w.heap.size) = some (.pointer bp) ∧
 a6.cell? (blk a2.heap.size) = some (.int .u32 g0) ∧
 a6.cell? (blk w.heap.size) = some (.pointer fz) ∧
 a6.cell? (bu.add 0) = some (.pointer ab) ∧
 a6.cell? (blk w.heap.size) = some (.pointer bs) ∧
 (Calls Try.prog 27 #[.pointer fz, .int .u32 g0] a6 fun ku a8 => ∃ (bo : Int), ku = .returned (.int .i64 bo) ∧
 a8.cell? (blk a2.heap.size) = some (.int .u32 ac) ∧
 a8.cell? (bt.add 1) = some (.int .i64 a0) ∧
 a8.cell? (blk w.heap.size) = some (.pointer bp) ∧
 a8.cell? (bu.add 0) = some (.pointer ab) ∧
 a8.cell? (blk w.heap.size) = some (.pointer bs) ∧
 (Calls Try.prog 29 #[.pointer ab, .int .i64 bo, .int .i64 a0, .int .u32 ac] a8 fun nd dr => ∃ (b1 : Option Addr) (bc : Int), nd = .returned (.tuple #[.pointer b1, .int .i64 bc]) ∧
 thenW (dr.alloc (.cells #[.int .i64 0] 26)) fun gc =>
 canStore gc ((blk a1.heap.size).add 0) ∧
 thenW (gc.setCell ((blk a1.heap.size).add 0) (.pointer b1)) fun ig =>
 canStore ig ((blk dr.heap.size).add 0) ∧
 thenW (ig.setCell ((blk dr.heap.size).add 0) (.int .i64 bc)) fun dd =>
 ∃ (o5 : Option Addr), dd.cell? (blk w.heap.size) = some (.pointer o5) ∧
 o5.elim False fun pi =>
 ∃ (mk : Option Addr), dd.cell? (pi.add 0) = some (.pointer mk) ∧
 thenW (dd.alloc (.cells #[.func (.func 30) #[] #[.pointer (some (blk dr.heap.size))], .func (.func 31) #[] #[.pointer (some (blk a1.heap.size)), .pointer (some (blk dv.heap.size))], .func (.func 33) #[] #[.pointer (some (blk w.heap.size)), .pointer (some (blk a2.heap.size))], .func (.func 37) #[.pointer mk] #[]] 68)) fun ns =>
 ∃ (I1 : Nat → List Value → World → Prop) (pn : Nat), I1 pn [.int .i64 0] ns ∧ ∀ (jh : Nat) (d3 : World) (cl : Int), I1 jh [.int .i64 cl] d3 →
 bif decide (cl < (4 : Int)) then (
 0 ≤ (cl : Int) ∧ (cl : Int) < (4 : Int) ∧
 ∃ (dj : Nat) (ev : Array Value) (e9 : Array Value), d3.cell? ((blk dd.heap.size).add (Int.toNat cl * 1)) = some (.func (.func dj) ev e9) ∧
 thenW (d3.drew) fun et =>
 ∃ (eh : Option Addr), et.cell? (blk w.heap.size) = some (.pointer eh) ∧
 bif enters Try.prog dj then Calls Try.prog dj (ev.toList ++ ([] : List Value) ++ e9.toList).toArray et (fun nc gz => ∃ (eb : Int), nc = .returned (.int .i64 eb) ∧
 gz.cell? (blk w.heap.size) = some (.pointer eh) ∧
 Calls Try.prog 38 #[.pointer eh, .int .i64 eb] gz fun o3 ir => ∃ (cr : Int), o3 = .returned (.int .i64 cr) ∧
 bif cr != 0 then (
 R (.int .i64 cr) ir) else (
 ∃ nt, nt < jh ∧ I1 nt [.int .i64 (IntKind.i64.wrap (cl + 1))] ir)) else (∃ (eb : Int) (fg : World), (externCall dj (ev.toList ++ ([] : List Value) ++ e9.toList).toArray).run Try.prog et = .ok (.int .i64 eb) fg ∧
 fg.cell? (blk w.heap.size) = some (.pointer eh) ∧
 Calls Try.prog 38 #[.pointer eh, .int .i64 eb] fg fun oh il => ∃ (cn : Int), oh = .returned (.int .i64 cn) ∧
 bif cn != 0 then (
 R (.int .i64 cn) il) else (
 ∃ nw, nw < jh ∧ I1 nw [.int .i64 (IntKind.i64.wrap (cl + 1))] il))) else (
 thenW (d3.drew) fun bg =>
 ∃ (lm : Option Addr), bg.cell? (blk w.heap.size) = some (.pointer lm) ∧
 ∃ (jn : Option Addr), bg.cell? (blk w.heap.size) = some (.pointer jn) ∧
 ∃ (mv : Int), bg.cell? (blk a2.heap.size) = some (.int .u32 mv) ∧
 ∃ (j4 : Option Addr), bg.cell? (blk a1.heap.size) = some (.pointer j4) ∧
 lm.elim False fun lh =>
 canStore bg ((lh.add 2).add 0) ∧
 thenW (bg.setCell ((lh.add 2).add 0) (.int .u32 mv)) fun dw =>
 dw.cell? (blk a1.heap.size) = some (.pointer j4) ∧
 dw.cell? (blk w.heap.size) = some (.pointer jn) ∧
 jn.elim False fun mt =>
 canStore dw ((mt.add 3).add 0) ∧
 thenW (dw.setCell ((mt.add 3).add 0) (.pointer j4)) fun m5 =>
 R (.int .i64 0) m5)) ∧
 (thenW (a8.alloc (.cells #[.int .i64 0] 26)) fun al =>
 al.cell? (blk a2.heap.size) = some (.int .u32 ac) ∧
 al.cell? (bt.add 1) = some (.int .i64 a0) ∧
 al.cell? (blk w.heap.size) = some (.pointer bp) ∧
 al.cell? (bu.add 0) = some (.pointer ab) ∧
 al.cell? (blk w.heap.size) = some (.pointer bs) ∧
 Calls Try.prog 29 #[.pointer ab, .int .i64 bo, .int .i64 a0, .int .u32 ac] al fun ma ge => ∃ (bk : Option Addr) (b9 : Int), ma = .returned (.tuple #[.pointer bk, .int .i64 b9]) ∧
 canStore ge ((blk a1.heap.size).add 0) ∧
 thenW (ge.setCell ((blk a1.heap.size).add 0) (.pointer bk)) fun i7 =>
 canStore i7 ((blk a8.heap.size).add 0) ∧
 thenW (i7.setCell ((blk a8.heap.size).add 0) (.int .i64 b9)) fun cz =>
 ∃ (ko : Option Addr), cz.cell? (blk w.heap.size) = some (.pointer ko) ∧
 ko.elim False fun p3 =>
 ∃ (m6 : Option Addr), cz.cell? (p3.add 0) = some (.pointer m6) ∧
 thenW (cz.alloc (.cells #[.func (.func 30) #[] #[.pointer (some (blk a8.heap.size))], .func (.func 31) #[] #[.pointer (some (blk a1.heap.size)), .pointer (some (blk dv.heap.size))], .func (.func 33) #[] #[.pointer (some (blk w.heap.size)), .pointer (some (blk a2.heap.size))], .func (.func 37) #[.pointer m6] #[]] 68)) fun nl =>
 ∃ (I1 : Nat → List Value → World → Prop) (pm : Nat), I1 pm [.int .i64 0] nl ∧ ∀ (iw : Nat) (d0 : World) (c9 : Int), I1 iw [.int .i64 c9] d0 →
 bif decide (c9 < (4 : Int)) then (
 0 ≤ (c9 : Int) ∧ (c9 : Int) < (4 : Int) ∧
 ∃ (d7 : Nat) (fq : Array Value) (fk : Array Value), d0.cell? ((blk cz.heap.size).add (Int.toNat c9 * 1)) = some (.func (.func d7) fq fk) ∧
 thenW (d0.drew) fun e6 =>
 ∃ (f6 : Option Addr), e6.cell? (blk w.heap.size) = some (.pointer f6) ∧
 bif enters Try.prog d7 then Calls Try.prog d7 (fq.toList ++ ([] : List Value) ++ fk.toList).toArray e6 (fun m9 gy => ∃ (f5 : Int), m9 = .returned (.int .i64 f5) ∧
 gy.cell? (blk w.heap.size) = some (.pointer f6) ∧
 Calls Try.prog 38 #[.pointer f6, .int .i64 f5] gy fun o4 gp => ∃ (ca : Int), o4 = .returned (.int .i64 ca) ∧
 bif ca != 0 then (
 R (.int .i64 ca) gp) else (
 ∃ ni, ni < iw ∧ I1 ni [.int .i64 (IntKind.i64.wrap (c9 + 1))] gp)) else (∃ (f5 : Int) (fj : World), (externCall d7 (fq.toList ++ ([] : List Value) ++ fk.toList).toArray).run Try.prog e6 = .ok (.int .i64 f5) fj ∧
 fj.cell? (blk w.heap.size) = some (.pointer f6) ∧
 Calls Try.prog 38 #[.pointer f6, .int .i64 f5] fj fun ls gi => ∃ (cf : Int), ls = .returned (.int .i64 cf) ∧
 bif cf != 0 then (
 R (.int .i64 cf) gi) else (
 ∃ o8, o8 < iw ∧ I1 o8 [.int .i64 (IntKind.i64.wrap (c9 + 1))] gi))) else (
 thenW (d0.drew) fun b5 =>
 ∃ (k2 : Option Addr), b5.cell? (blk w.heap.size) = some (.pointer k2) ∧
 ∃ (jx : Option Addr), b5.cell? (blk w.heap.size) = some (.pointer jx) ∧
 ∃ (nj : Int), b5.cell? (blk a2.heap.size) = some (.int .u32 nj) ∧
 ∃ (iy : Option Addr), b5.cell? (blk a1.heap.size) = some (.pointer iy) ∧
 k2.elim False fun om =>
 canStore b5 ((om.add 2).add 0) ∧
 thenW (b5.setCell ((om.add 2).add 0) (.int .u32 nj)) fun e2 =>
 e2.cell? (blk a1.heap.size) = some (.pointer iy) ∧
 e2.cell? (blk w.heap.size) = some (.pointer jx) ∧
 jx.elim False fun my =>
 canStore e2 ((my.add 3).add 0) ∧
 thenW (e2.setCell ((my.add 3).add 0) (.pointer iy)) fun l8 =>
 R (.int .i64 0) l8))) ∧
 (thenW (a6.alloc (.cells #[.int .i64 0] 26)) fun ae =>
 ae.cell? (blk a2.heap.size) = some (.int .u32 ac) ∧
 ae.cell? (bt.add 1) = some (.int .i64 a0) ∧
 ae.cell? (blk w.heap.size) = some (.pointer bp) ∧
 ae.cell? (blk a2.heap.size) = some (.int .u32 g0) ∧
 ae.cell? (blk w.heap.size) = some (.pointer fz) ∧
 ae.cell? (bu.add 0) = some (.pointer ab) ∧
 ae.cell? (blk w.heap.size) = some (.pointer bs) ∧
 Calls Try.prog 27 #[.pointer fz, .int .u32 g0] ae fun od ax => ∃ (dz : Int), od = .returned (.int .i64 dz) ∧
 ax.cell? (blk a2.heap.size) = some (.int .u32 ac) ∧
 ax.cell? (bt.add 1) = some (.int .i64 a0) ∧
 ax.cell? (blk w.heap.size) = some (.pointer bp) ∧
 ax.cell? (bu.add 0) = some (.pointer ab) ∧
 ax.cell? (blk w.heap.size) = some (.pointer bs) ∧
 Calls Try.prog 29 #[.pointer ab, .int .i64 dz, .int .i64 a0, .int .u32 ac] ax fun nb gv => ∃ (ao : Option Addr) (ar : Int), nb = .returned (.tuple #[.pointer ao, .int .i64 ar]) ∧
 canStore gv ((blk a1.heap.size).add 0) ∧
 thenW (gv.setCell ((blk a1.heap.size).add 0) (.pointer ao)) fun gs =>
 canStore gs ((blk a6.heap.size).add 0) ∧
 thenW (gs.setCell ((blk a6.heap.size).add 0) (.int .i64 ar)) fun da =>
 ∃ (ky : Option Addr), da.cell? (blk w.heap.size) = some (.pointer ky) ∧
 ky.elim False fun p0 =>
 ∃ (kr : Option Addr), da.cell? (p0.add 0) = some (.pointer kr) ∧
 thenW (da.alloc (.cells #[.func (.func 30) #[] #[.pointer (some (blk a6.heap.size))], .func (.func 31) #[] #[.pointer (some (blk a1.heap.size)), .pointer (some (blk dv.heap.size))], .func (.func 33) #[] #[.pointer (some (blk w.heap.size)), .pointer (some (blk a2.heap.size))], .func (.func 37) #[.pointer kr] #[]] 68)) fun mh =>
 ∃ (I1 : Nat → List Value → World → Prop) (pp : Nat), I1 pp [.int .i64 0] mh ∧ ∀ (jz : Nat) (dk : World) (bx : Int), I1 jz [.int .i64 bx] dk →
 bif decide (bx < (4 : Int)) then (
 0 ≤ (bx : Int) ∧ (bx : Int) < (4 : Int) ∧
 ∃ (di : Nat) (fe : Array Value) (f7 : Array Value), dk.cell? ((blk da.heap.size).add (Int.toNat bx * 1)) = some (.func (.func di) fe f7) ∧
 thenW (dk.drew) fun e5 =>
 ∃ (f2 : Option Addr), e5.cell? (blk w.heap.size) = some (.pointer f2) ∧
 bif enters Try.prog di then Calls Try.prog di (fe.toList ++ ([] : List Value) ++ f7.toList).toArray e5 (fun l5 gn => ∃ (em : Int), l5 = .returned (.int .i64 em) ∧
 gn.cell? (blk w.heap.size) = some (.pointer f2) ∧
 Calls Try.prog 38 #[.pointer f2, .int .i64 em] gn fun k7 ii => ∃ (c3 : Int), k7 = .returned (.int .i64 c3) ∧
 bif c3 != 0 then (
 R (.int .i64 c3) ii) else (
 ∃ km, km < jz ∧ I1 km [.int .i64 (IntKind.i64.wrap (bx + 1))] ii)) else (∃ (em : Int) (eq : World), (externCall di (fe.toList ++ ([] : List Value) ++ f7.toList).toArray).run Try.prog e5 = .ok (.int .i64 em) eq ∧
 eq.cell? (blk w.heap.size) = some (.pointer f2) ∧
 Calls Try.prog 38 #[.pointer f2, .int .i64 em] eq fun ly i0 => ∃ (c5 : Int), ly = .returned (.int .i64 c5) ∧
 bif c5 != 0 then (
 R (.int .i64 c5) i0) else (
 ∃ k5, k5 < jz ∧ I1 k5 [.int .i64 (IntKind.i64.wrap (bx + 1))] i0))) else (
 thenW (dk.drew) fun av =>
 ∃ (me : Option Addr), av.cell? (blk w.heap.size) = some (.pointer me) ∧
 ∃ (jq : Option Addr), av.cell? (blk w.heap.size) = some (.pointer jq) ∧
 ∃ (oi : Int), av.cell? (blk a2.heap.size) = some (.int .u32 oi) ∧
 ∃ (jm : Option Addr), av.cell? (blk a1.heap.size) = some (.pointer jm) ∧
 me.elim False fun lj =>
 canStore av ((lj.add 2).add 0) ∧
 thenW (av.setCell ((lj.add 2).add 0) (.int .u32 oi)) fun dx =>
 dx.cell? (blk a1.heap.size) = some (.pointer jm) ∧
 dx.cell? (blk w.heap.size) = some (.pointer jq) ∧
 jq.elim False fun li =>
 canStore dx ((li.add 3).add 0) ∧
 thenW (dx.setCell ((li.add 3).add 0) (.pointer jm)) fun nm =>
 R (.int .i64 0) nm))) ∧
 (thenW (a1.alloc (.cells #[.int .i64 0] 26)) fun a4 =>
 a4.cell? (blk a2.heap.size) = some (.int .u32 ac) ∧
 a4.cell? (bt.add 1) = some (.int .i64 a0) ∧
 a4.cell? (blk w.heap.size) = some (.pointer bp) ∧
 a4.cell? (blk a2.heap.size) = some (.int .u32 g0) ∧
 a4.cell? (blk w.heap.size) = some (.pointer fz) ∧
 a4.cell? (bu.add 0) = some (.pointer ab) ∧
 a4.cell? (blk w.heap.size) = some (.pointer bs) ∧
 (Calls Try.prog 27 #[.pointer fz, .int .u32 g0] a4 fun ka a5 => ∃ (bn : Int), ka = .returned (.int .i64 bn) ∧
 a5.cell? (blk a2.heap.size) = some (.int .u32 ac) ∧
 a5.cell? (bt.add 1) = some (.int .i64 a0) ∧
 a5.cell? (blk w.heap.size) = some (.pointer bp) ∧
 a5.cell? (bu.add 0) = some (.pointer ab) ∧
 a5.cell? (blk w.heap.size) = some (.pointer bs) ∧
 (Calls Try.prog 29 #[.pointer ab, .int .i64 bn, .int .i64 a0, .int .u32 ac] a5 fun k4 ap => ∃ (ai : Option Addr) (b3 : Int), k4 = .returned (.tuple #[.pointer ai, .int .i64 b3]) ∧
 thenW (ap.alloc (.cells #[.pointer none] 58)) fun i3 =>
 canStore i3 ((blk ap.heap.size).add 0) ∧
 thenW (i3.setCell ((blk ap.heap.size).add 0) (.pointer ai)) fun iq =>
 canStore iq ((blk a1.heap.size).add 0) ∧
 thenW (iq.setCell ((blk a1.heap.size).add 0) (.int .i64 b3)) fun d5 =>
 ∃ (nx : Option Addr), d5.cell? (blk w.heap.size) = some (.pointer nx) ∧
 nx.elim False fun pf =>
 ∃ (lt : Option Addr), d5.cell? (pf.add 0) = some (.pointer lt) ∧
 thenW (d5.alloc (.cells #[.func (.func 30) #[] #[.pointer (some (blk a1.heap.size))], .func (.func 31) #[] #[.pointer (some (blk ap.heap.size)), .pointer (some (blk dv.heap.size))], .func (.func 33) #[] #[.pointer (some (blk w.heap.size)), .pointer (some (blk a2.heap.size))], .func (.func 37) #[.pointer lt] #[]] 68)) fun ob =>
 ∃ (I1 : Nat → List Value → World → Prop) (ov : Nat), I1 ov [.int .i64 0] ob ∧ ∀ (je : Nat) (d2 : World) (bw : Int), I1 je [.int .i64 bw] d2 →
 bif decide (bw < (4 : Int)) then (
 0 ≤ (bw : Int) ∧ (bw : Int) < (4 : Int) ∧
 ∃ (df : Nat) (fw : Array Value) (f4 : Array Value), d2.cell? ((blk d5.heap.size).add (Int.toNat bw * 1)) = some (.func (.func df) fw f4) ∧
 thenW (d2.drew) fun f3 =>
 ∃ (fm : Option Addr), f3.cell? (blk w.heap.size) = some (.pointer fm) ∧
 bif enters Try.prog df then Calls Try.prog df (fw.toList ++ ([] : List Value) ++ f4.toList).toArray f3 (fun kp gx => ∃ (ex : Int), kp = .returned (.int .i64 ex) ∧
 gx.cell? (blk w.heap.size) = some (.pointer fm) ∧
 Calls Try.prog 38 #[.pointer fm, .int .i64 ex] gx fun nn gk => ∃ (c8 : Int), nn = .returned (.int .i64 c8) ∧
 bif c8 != 0 then (
 R (.int .i64 c8) gk) else (
 ∃ kf, kf < je ∧ I1 kf [.int .i64 (IntKind.i64.wrap (bw + 1))] gk)) else (∃ (ex : Int) (es : World), (externCall df (fw.toList ++ ([] : List Value) ++ f4.toList).toArray).run Try.prog f3 = .ok (.int .i64 ex) es ∧
 es.cell? (blk w.heap.size) = some (.pointer fm) ∧
 Calls Try.prog 38 #[.pointer fm, .int .i64 ex] es fun og i4 => ∃ (co : Int), og = .returned (.int .i64 co) ∧
 bif co != 0 then (
 R (.int .i64 co) i4) else (
 ∃ n7, n7 < je ∧ I1 n7 [.int .i64 (IntKind.i64.wrap (bw + 1))] i4))) else (
 thenW (d2.drew) fun ay =>
 ∃ (np : Option Addr), ay.cell? (blk w.heap.size) = some (.pointer np) ∧
 ∃ (j2 : Option Addr), ay.cell? (blk w.heap.size) = some (.pointer j2) ∧
 ∃ (l3 : Int), ay.cell? (blk a2.heap.size) = some (.int .u32 l3) ∧
 ∃ (j8 : Option Addr), ay.cell? (blk ap.heap.size) = some (.pointer j8) ∧
 np.elim False fun kt =>
 canStore ay ((kt.add 2).add 0) ∧
 thenW (ay.setCell ((kt.add 2).add 0) (.int .u32 l3)) fun cu =>
 cu.cell? (blk ap.heap.size) = some (.pointer j8) ∧
 cu.cell? (blk w.heap.size) = some (.pointer j2) ∧
 j2.elim False fun mf =>
 canStore cu ((mf.add 3).add 0) ∧
 thenW (cu.setCell ((mf.add 3).add 0) (.pointer j8)) fun n5 =>
 R (.int .i64 0) n5)) ∧
 (thenW (a5.alloc (.cells #[.pointer none] 58)) fun aj =>
 aj.cell? (blk a2.heap.size) = some (.int .u32 ac) ∧
 aj.cell? (bt.add 1) = some (.int .i64 a0) ∧
 aj.cell? (blk w.heap.size) = some (.pointer bp) ∧
 aj.cell? (bu.add 0) = some (.pointer ab) ∧
 aj.cell? (blk w.heap.size) = some (.pointer bs) ∧
 Calls Try.prog 29 #[.pointer ab, .int .i64 bn, .int .i64 a0, .int .u32 ac] aj fun o0 i5 => ∃ (bb : Option Addr) (bl : Int), o0 = .returned (.tuple #[.pointer bb, .int .i64 bl]) ∧
 canStore i5 ((blk a5.heap.size).add 0) ∧
 thenW (i5.setCell ((blk a5.heap.size).add 0) (.pointer bb)) fun gl =>
 canStore gl ((blk a1.heap.size).add 0) ∧
 thenW (gl.setCell ((blk a1.heap.size).add 0) (.int .i64 bl)) fun dp =>
 ∃ (n3 : Option Addr), dp.cell? (blk w.heap.size) = some (.pointer n3) ∧
 n3.elim False fun p9 =>
 ∃ (lb : Option Addr), dp.cell? (p9.add 0) = some (.pointer lb) ∧
 thenW (dp.alloc (.cells #[.func (.func 30) #[] #[.pointer (some (blk a1.heap.size))], .func (.func 31) #[] #[.pointer (some (blk a5.heap.size)), .pointer (some (blk dv.heap.size))], .func (.func 33) #[] #[.pointer (some (blk w.heap.size)), .pointer (some (blk a2.heap.size))], .func (.func 37) #[.pointer lb] #[]] 68)) fun mw =>
 ∃ (I1 : Nat → List Value → World → Prop) (p8 : Nat), I1 p8 [.int .i64 0] mw ∧ ∀ (jg : Nat) (dm : World) (cm : Int), I1 jg [.int .i64 cm] dm →
 bif decide (cm < (4 : Int)) then (
 0 ≤ (cm : Int) ∧ (cm : Int) < (4 : Int) ∧
 ∃ (dl : Nat) (ez : Array Value) (er : Array Value), dm.cell? ((blk dp.heap.size).add (Int.toNat cm * 1)) = some (.func (.func dl) ez er) ∧
 thenW (dm.drew) fun el =>
 ∃ (f9 : Option Addr), el.cell? (blk w.heap.size) = some (.pointer f9) ∧
 bif enters Try.prog dl then Calls Try.prog dl (ez.toList ++ ([] : List Value) ++ er.toList).toArray el (fun mu ie => ∃ (fy : Int), mu = .returned (.int .i64 fy) ∧
 ie.cell? (blk w.heap.size) = some (.pointer f9) ∧
 Calls Try.prog 38 #[.pointer f9, .int .i64 fy] ie fun kg i1 => ∃ (cd : Int), kg = .returned (.int .i64 cd) ∧
 bif cd != 0 then (
 R (.int .i64 cd) i1) else (
 ∃ lc, lc < jg ∧ I1 lc [.int .i64 (IntKind.i64.wrap (cm + 1))] i1)) else (∃ (fy : Int) (fx : World), (externCall dl (ez.toList ++ ([] : List Value) ++ er.toList).toArray).run Try.prog el = .ok (.int .i64 fy) fx ∧
 fx.cell? (blk w.heap.size) = some (.pointer f9) ∧
 Calls Try.prog 38 #[.pointer f9, .int .i64 fy] fx fun ld ik => ∃ (c7 : Int), ld = .returned (.int .i64 c7) ∧
 bif c7 != 0 then (
 R (.int .i64 c7) ik) else (
 ∃ n1, n1 < jg ∧ I1 n1 [.int .i64 (IntKind.i64.wrap (cm + 1))] ik))) else (
 thenW (dm.drew) fun aw =>
 ∃ (la : Option Addr), aw.cell? (blk w.heap.size) = some (.pointer la) ∧
 ∃ (j6 : Option Addr), aw.cell? (blk w.heap.size) = some (.pointer j6) ∧
 ∃ (l9 : Int), aw.cell? (blk a2.heap.size) = some (.int .u32 l9) ∧
 ∃ (k1 : Option Addr), aw.cell? (blk a5.heap.size) = some (.pointer k1) ∧
 la.elim False fun kq =>
 canStore aw ((kq.add 2).add 0) ∧
 thenW (aw.setCell ((kq.add 2).add 0) (.int .u32 l9)) fun dg =>
 dg.cell? (blk a5.heap.size) = some (.pointer k1) ∧
 dg.cell? (blk w.heap.size) = some (.pointer j6) ∧
 j6.elim False fun m0 =>
 canStore dg ((m0.add 3).add 0) ∧
 thenW (dg.setCell ((m0.add 3).add 0) (.pointer k1)) fun k3 =>
 R (.int .i64 0) k3))) ∧
 (thenW (a4.alloc (.cells #[.pointer none] 58)) fun ad =>
 ad.cell? (blk a2.heap.size) = some (.int .u32 ac) ∧
 ad.cell? (bt.add 1) = some (.int .i64 a0) ∧
 ad.cell? (blk w.heap.size) = some (.pointer bp) ∧
 ad.cell? (blk a2.heap.size) = some (.int .u32 g0) ∧
 ad.cell? (blk w.heap.size) = some (.pointer fz) ∧
 ad.cell? (bu.add 0) = some (.pointer ab) ∧
 ad.cell? (blk w.heap.size) = some (.pointer bs) ∧
 Calls Try.prog 27 #[.pointer fz, .int .u32 g0] ad fun kb au => ∃ (ds : Int), kb = .returned (.int .i64 ds) ∧
 au.cell? (blk a2.heap.size) = some (.int .u32 ac) ∧
 au.cell? (bt.add 1) = some (.int .i64 a0) ∧
 au.cell? (blk w.heap.size) = some (.pointer bp) ∧
 au.cell? (bu.add 0) = some (.pointer ab) ∧
 au.cell? (blk w.heap.size) = some (.pointer bs) ∧
 Calls Try.prog 29 #[.pointer ab, .int .i64 ds, .int .i64 a0, .int .u32 ac] au fun o2 gh => ∃ (be : Option Addr) (b6 : Int), o2 = .returned (.tuple #[.pointer be, .int .i64 b6]) ∧
 canStore gh ((blk a4.heap.size).add 0) ∧
 thenW (gh.setCell ((blk a4.heap.size).add 0) (.pointer be)) fun gw =>
 canStore gw ((blk a1.heap.size).add 0) ∧
 thenW (gw.setCell ((blk a1.heap.size).add 0) (.int .i64 b6)) fun dc =>
 ∃ (n2 : Option Addr), dc.cell? (blk w.heap.size) = some (.pointer n2) ∧
 n2.elim False fun ph =>
 ∃ (l6 : Option Addr), dc.cell? (ph.add 0) = some (.pointer l6) ∧
 thenW (dc.alloc (.cells #[.func (.func 30) #[] #[.pointer (some (blk a1.heap.size))], .func (.func 31) #[] #[.pointer (some (blk a4.heap.size)), .pointer (some (blk dv.heap.size))], .func (.func 33) #[] #[.pointer (some (blk w.heap.size)), .pointer (some (blk a2.heap.size))], .func (.func 37) #[.pointer l6] #[]] 68)) fun ml =>
 ∃ (I1 : Nat → List Value → World → Prop) (pl : Nat), I1 pl [.int .i64 0] ml ∧ ∀ (ju : Nat) (d8 : World) (cb : Int), I1 ju [.int .i64 cb] d8 →
 bif decide (cb < (4 : Int)) then (
 0 ≤ (cb : Int) ∧ (cb : Int) < (4 : Int) ∧
 ∃ (e0 : Nat) (ea : Array Value) (eu : Array Value), d8.cell? ((blk dc.heap.size).add (Int.toNat cb * 1)) = some (.func (.func e0) ea eu) ∧
 thenW (d8.drew) fun ef =>
 ∃ (fd : Option Addr), ef.cell? (blk w.heap.size) = some (.pointer fd) ∧
 bif enters Try.prog e0 then Calls Try.prog e0 (ea.toList ++ ([] : List Value) ++ eu.toList).toArray ef (fun oa ic => ∃ (ft : Int), oa = .returned (.int .i64 ft) ∧
 ic.cell? (blk w.heap.size) = some (.pointer fd) ∧
 Calls Try.prog 38 #[.pointer fd, .int .i64 ft] ic fun mj ib => ∃ (c4 : Int), mj = .returned (.int .i64 c4) ∧
 bif c4 != 0 then (
 R (.int .i64 c4) ib) else (
 ∃ kn, kn < ju ∧ I1 kn [.int .i64 (IntKind.i64.wrap (cb + 1))] ib)) else (∃ (ft : Int) (ep : World), (externCall e0 (ea.toList ++ ([] : List Value) ++ eu.toList).toArray).run Try.prog ef = .ok (.int .i64 ft) ep ∧
 ep.cell? (blk w.heap.size) = some (.pointer fd) ∧
 Calls Try.prog 38 #[.pointer fd, .int .i64 ft] ep fun lg gg => ∃ (cp : Int), lg = .returned (.int .i64 cp) ∧
 bif cp != 0 then (
 R (.int .i64 cp) gg) else (
 ∃ lz, lz < ju ∧ I1 lz [.int .i64 (IntKind.i64.wrap (cb + 1))] gg))) else (
 thenW (d8.drew) fun am =>
 ∃ (l2 : Option Addr), am.cell? (blk w.heap.size) = some (.pointer l2) ∧
 ∃ (j5 : Option Addr), am.cell? (blk w.heap.size) = some (.pointer j5) ∧
 ∃ (mm : Int), am.cell? (blk a2.heap.size) = some (.int .u32 mm) ∧
 ∃ (jv : Option Addr), am.cell? (blk a4.heap.size) = some (.pointer jv) ∧
 l2.elim False fun lr =>
 canStore am ((lr.add 2).add 0) ∧
 thenW (am.setCell ((lr.add 2).add 0) (.int .u32 mm)) fun dt =>
 dt.cell? (blk a4.heap.size) = some (.pointer jv) ∧
 dt.cell? (blk w.heap.size) = some (.pointer j5) ∧
 j5.elim False fun oo =>
 canStore dt ((oo.add 3).add 0) ∧
 thenW (dt.setCell ((oo.add 3).add 0) (.pointer jv)) fun n0 =>
 R (.int .i64 0) n0))))))))

theorem snapshot_Store_Compact.eq (s1 : Option Addr) (snap2a : Option Addr) (snap2n : Nat) (snap2c : Nat) (R : Value → World → Prop) (w : World) : mfunc Try.prog [(1, [2, 6, 7, 69, 70], [(71, (.one (.int .i64)))])] 10 [.pointer s1, .slice snap2a snap2n snap2c] R w = snapshot_Store_Compact.M s1 snap2a snap2n snap2c R w := by kernel_rfl
theorem snapshot_Store_Compact.ok (s1 : Option Addr) (a1 : Option Addr) (a0 : Nat) (a2 : Nat) {R : Value → World → Prop} {w : World} (h : snapshot_Store_Compact.M s1 a1 a0 a2 R w) : Calls Try.prog 10 #[.pointer s1, .slice a1 a0 a2] w fun e w' => ∃ v, e = .returned v ∧ R v w' :=
  mfunc_ok follows (H := [(1, [2, 6, 7, 69, 70], [(71, (.one (.int .i64)))])]) (args := [.pointer s1, .slice a1 a0 a2]) (by rw [snapshot_Store_Compact.eq]; exact h)

def snapshot_Store_Compact.N (s1 : Option Addr) (fr : Option Addr) (fx : Nat) (fi : Nat) (R : Value → World → Prop) (w : World) : Prop :=
 ∀ (g8 : World) (q4 : Nat), Ext no w g8 → Blk g8 q4 29 [.pointer s1] → w.heap.size ≤ q4 → q4 < g8.heap.size →
 ∀ (ci : World) (q6 : Nat), Ext no g8 ci → Blk ci q6 30 [.slice fr fx fi] → g8.heap.size ≤ q6 → q6 < ci.heap.size →
 ∃ (x8 : Option Addr), ci.cell? (blk q4) = some (.pointer x8) ∧
 (x8 = none →
 R (.int .i64 23) ci) ∧
 (x8 ≠ none →
 ∃ (gr : Option Addr) (eg : Nat) (gq : Nat), ci.cell? (blk q6) = some (.slice gr eg gq) ∧
 ((journal_Parts.F (eg : Int)) = 0 →
 ∀ (c5 : World), Ext no ci c5 →
 R (.int .i64 3) c5) ∧
 ((journal_Parts.F (eg : Int)) ≠ 0 →
 ∃ (i4 : Option Addr), ci.cell? (blk q4) = some (.pointer i4) ∧
 ∃ i0 : Addr, i4 = some i0 ∧
 ∃ (dk : Bool), ci.cell? (i0.add 4) = some (.bool dk) ∧
 (dk = true →
 ∀ (c5 : World), Ext no ci c5 →
 R (.int .i64 19) c5) ∧
 (dk = false →
 ∃ (i1 : Option Addr), ci.cell? (blk q4) = some (.pointer i1) ∧
 ∃ i2 : Addr, i1 = some i2 ∧
 ∃ (c7 : Int), ci.cell? (i2.add 2) = some (.int .u32 c7) ∧
 (c7 = 4294967295 →
 ∀ (c5 : World), Ext no ci c5 →
 R (.int .i64 2) c5) ∧
 (c7 ≠ 4294967295 →
 ∃ (i3 : Option Addr), ci.cell? (blk q4) = some (.pointer i3) ∧
 ∃ i6 : Addr, i3 = some i6 ∧
 ∃ (e2 : Int), ci.cell? (i6.add 1) = some (.int .i64 e2) ∧
 ((journal_Parts.F (eg : Int)) > e2 →
 ∀ (c5 : World), Ext no ci c5 →
 R (.int .i64 18) c5) ∧
 ((journal_Parts.F (eg : Int)) ≤ e2 →
 ∃ (gz : Option Addr), ci.cell? (blk q4) = some (.pointer gz) ∧
 ∃ i5 : Addr, gz = some i5 ∧
 ∃ (d5 : Int), ci.cell? (i5.add 2) = some (.int .u32 d5) ∧
 ∀ (ec : World) (ai : Nat), Ext no ci ec → Blk ec ai 34 [.int .u32 0] → ci.heap.size ≤ ai → ai < ec.heap.size →
 canStore ec ((blk ai).add 0) ∧
 thenW (ec.setCell ((blk ai).add 0) (.int .u32 (IntKind.u32.wrap (d5 + 1)))) fun bx =>
 ∃ (d2 : Option Addr), bx.cell? (blk q4) = some (.pointer d2) ∧
 ∃ cx : Addr, d2 = some cx ∧
 ∃ (bs : Option Addr), bx.cell? (cx.add 0) = some (.pointer bs) ∧
 ∃ (f6 : Option Addr), bx.cell? (blk q4) = some (.pointer f6) ∧
 ∃ (f7 : Int), bx.cell? (blk ai) = some (.int .u32 f7) ∧
 ∃ (d1 : Option Addr), bx.cell? (blk q4) = some (.pointer d1) ∧
 ∃ ct : Addr, d1 = some ct ∧
 ∃ (a0 : Int), bx.cell? (ct.add 1) = some (.int .i64 a0) ∧
 ∃ (bt : Int), bx.cell? (blk ai) = some (.int .u32 bt) ∧
 (∀ (fg : World) (fz : List Nat), Ext no bx fg → Priv bx fg fz →
 Calls Try.prog 27 #[.pointer f6, .int .u32 f7] fg fun gv ch => ∃ (bq : Int), gv = .returned (.int .i64 bq) ∧
 Keep fz fg ch ∧
 ch.cell? (blk ai) = some (.int .u32 bt) ∧
 ch.cell? (ct.add 1) = some (.int .i64 a0) ∧
 ch.cell? (blk q4) = some (.pointer d1) ∧
 ch.cell? (cx.add 0) = some (.pointer bs) ∧
 ch.cell? (blk q4) = some (.pointer d2) ∧
 (∀ (f8 : World) (gp : List Nat), Ext (fun b => b ∈ fz) ch f8 → PrivJ fz ch f8 gp →
 Calls Try.prog 29 #[.pointer bs, .int .i64 bq, .int .i64 a0, .int .u32 bt] f8 fun gu fj => ∃ (cb : Option Addr) (ca : Int), gu = .returned (.tuple #[.pointer cb, .int .i64 ca]) ∧
 Keep gp f8 fj ∧
 (∀ (ad : World), Ext (fun b => b ∈ gp) fj ad →
 ∀ (cc : World) (dp : Nat), Ext no ad cc → Blk cc dp 58 [.pointer none] → ad.heap.size ≤ dp → dp < cc.heap.size →
 ∀ (am : World) (de : Nat), Ext no cc am → Blk am de 26 [.int .i64 0] → cc.heap.size ≤ de → de < am.heap.size →
 canStore am ((blk dp).add 0) ∧
 thenW (am.setCell ((blk dp).add 0) (.pointer cb)) fun bg =>
 canStore bg ((blk de).add 0) ∧
 thenW (bg.setCell ((blk de).add 0) (.int .i64 ca)) fun cp =>
 ∃ (gl : Option Addr), cp.cell? (blk q4) = some (.pointer gl) ∧
 ∃ gf : Addr, gl = some gf ∧
 ∃ (gd : Option Addr), cp.cell? (gf.add 0) = some (.pointer gd) ∧
 ∀ (ah : World) (fa : Nat), Ext no cp ah → Blk ah fa 68 [.func (.func 30) #[] #[.pointer (some (blk de))], .func (.func 31) #[] #[.pointer (some (blk dp)), .pointer (some (blk q6))], .func (.func 33) #[] #[.pointer (some (blk q4)), .pointer (some (blk ai))], .func (.func 37) #[.pointer gd] #[]] → cp.heap.size ≤ fa → fa < ah.heap.size →
 ∃ (I1 : Nat → List Value → World → Prop) (gs : Nat), I1 gs [.int .i64 0] ah ∧ ∀ (g9 : Nat) (a3 : World) (cj : Int), I1 g9 [.int .i64 cj] a3 →
 (cj < (4 : Int) →
 0 ≤ (cj : Int) ∧ (cj : Int) < (4 : Int) ∧
 ∃ (dy : Nat) (ej : Array Value) (es : Array Value), a3.cell? ((blk fa).add (Int.toNat cj * 1)) = some (.func (.func dy) ej es) ∧
 ∃ (fo : Option Addr), a3.cell? (blk q4) = some (.pointer fo) ∧
 ∀ (en : World), Ext no a3 en →
 enters Try.prog dy = true ∧ Calls Try.prog dy (ej.toList ++ ([] : List Value) ++ es.toList).toArray en (fun fs an => ∃ (gg : Int), fs = .returned (.int .i64 gg) ∧
 an.cell? (blk q4) = some (.pointer fo) ∧
 Calls Try.prog 38 #[.pointer fo, .int .i64 gg] an fun e8 d8 => ∃ (ax : Int), e8 = .returned (.int .i64 ax) ∧
 (ax ≠ 0 →
 R (.int .i64 ax) d8) ∧
 (ax = 0 →
 (-9223372036854775808 : Int) ≤ (cj + 1) ∧ (cj + 1) < 9223372036854775808 ∧
 ∃ et, et < g9 ∧ I1 et [.int .i64 (cj + 1)] d8))) ∧
 ((4 : Int) ≤ cj →
 ∃ (bz : Option Addr), a3.cell? (blk q4) = some (.pointer bz) ∧
 ∃ (bh : Option Addr), a3.cell? (blk q4) = some (.pointer bh) ∧
 ∃ (eo : Int), a3.cell? (blk ai) = some (.int .u32 eo) ∧
 ∃ (du : Option Addr), a3.cell? (blk dp) = some (.pointer du) ∧
 ∃ dt : Addr, bz = some dt ∧
 ∀ (a5 : World), Ext no a3 a5 →
 canStore a5 ((dt.add 2).add 0) ∧
 thenW (a5.setCell ((dt.add 2).add 0) (.int .u32 eo)) fun af =>
 af.cell? (blk dp) = some (.pointer du) ∧
 af.cell? (blk q4) = some (.pointer bh) ∧
 ∃ dd : Addr, bh = some dd ∧
 canStore af ((dd.add 3).add 0) ∧
 thenW (af.setCell ((dd.add 3).add 0) (.pointer du)) fun b9 =>
 R (.int .i64 0) b9)) ∧
 (∀ (ad : World), Ext (fun b => b ∈ gp) fj ad →
 ∀ (cc : World) (dp : Nat), Ext no ad cc → Blk cc dp 26 [.int .i64 0] → ad.heap.size ≤ dp → dp < cc.heap.size →
 ∀ (am : World) (de : Nat), Ext no cc am → Blk am de 58 [.pointer none] → cc.heap.size ≤ de → de < am.heap.size →
 canStore am ((blk de).add 0) ∧
 thenW (am.setCell ((blk de).add 0) (.pointer cb)) fun bg =>
 canStore bg ((blk dp).add 0) ∧
 thenW (bg.setCell ((blk dp).add 0) (.int .i64 ca)) fun cp =>
 ∃ (gl : Option Addr), cp.cell? (blk q4) = some (.pointer gl) ∧
 ∃ gf : Addr, gl = some gf ∧
 ∃ (gd : Option Addr), cp.cell? (gf.add 0) = some (.pointer gd) ∧
 ∀ (ah : World) (fa : Nat), Ext no cp ah → Blk ah fa 68 [.func (.func 30) #[] #[.pointer (some (blk dp))], .func (.func 31) #[] #[.pointer (some (blk de)), .pointer (some (blk q6))], .func (.func 33) #[] #[.pointer (some (blk q4)), .pointer (some (blk ai))], .func (.func 37) #[.pointer gd] #[]] → cp.heap.size ≤ fa → fa < ah.heap.size →
 ∃ (I1 : Nat → List Value → World → Prop) (gs : Nat), I1 gs [.int .i64 0] ah ∧ ∀ (g9 : Nat) (a3 : World) (cj : Int), I1 g9 [.int .i64 cj] a3 →
 (cj < (4 : Int) →
 0 ≤ (cj : Int) ∧ (cj : Int) < (4 : Int) ∧
 ∃ (dy : Nat) (ej : Array Value) (es : Array Value), a3.cell? ((blk fa).add (Int.toNat cj * 1)) = some (.func (.func dy) ej es) ∧
 ∃ (fo : Option Addr), a3.cell? (blk q4) = some (.pointer fo) ∧
 ∀ (en : World), Ext no a3 en →
 enters Try.prog dy = true ∧ Calls Try.prog dy (ej.toList ++ ([] : List Value) ++ es.toList).toArray en (fun fs an => ∃ (gg : Int), fs = .returned (.int .i64 gg) ∧
 an.cell? (blk q4) = some (.pointer fo) ∧
 Calls Try.prog 38 #[.pointer fo, .int .i64 gg] an fun e8 d8 => ∃ (ax : Int), e8 = .returned (.int .i64 ax) ∧
 (ax ≠ 0 →
 R (.int .i64 ax) d8) ∧
 (ax = 0 →
 (-9223372036854775808 : Int) ≤ (cj + 1) ∧ (cj + 1) < 9223372036854775808 ∧
 ∃ et, et < g9 ∧ I1 et [.int .i64 (cj + 1)] d8))) ∧
 ((4 : Int) ≤ cj →
 ∃ (bz : Option Addr), a3.cell? (blk q4) = some (.pointer bz) ∧
 ∃ (bh : Option Addr), a3.cell? (blk q4) = some (.pointer bh) ∧
 ∃ (eo : Int), a3.cell? (blk ai) = some (.int .u32 eo) ∧
 ∃ (du : Option Addr), a3.cell? (blk de) = some (.pointer du) ∧
 ∃ dt : Addr, bz = some dt ∧
 ∀ (a5 : World), Ext no a3 a5 →
 canStore a5 ((dt.add 2).add 0) ∧
 thenW (a5.setCell ((dt.add 2).add 0) (.int .u32 eo)) fun af =>
 af.cell? (blk de) = some (.pointer du) ∧
 af.cell? (blk q4) = some (.pointer bh) ∧
 ∃ dd : Addr, bh = some dd ∧
 canStore af ((dd.add 3).add 0) ∧
 thenW (af.setCell ((dd.add 3).add 0) (.pointer du)) fun b9 =>
 R (.int .i64 0) b9))) ∧
 (∀ (b8 : World), Ext (fun b => b ∈ fz) ch b8 →
 ∀ (a2 : World) (c1 : Nat), Ext no b8 a2 → Blk a2 c1 58 [.pointer none] → b8.heap.size ≤ c1 → c1 < a2.heap.size →
 a2.cell? (blk ai) = some (.int .u32 bt) ∧
 a2.cell? (ct.add 1) = some (.int .i64 a0) ∧
 a2.cell? (blk q4) = some (.pointer d1) ∧
 a2.cell? (cx.add 0) = some (.pointer bs) ∧
 a2.cell? (blk q4) = some (.pointer d2) ∧
 (∀ (am : World) (fy : List Nat), Ext no a2 am → Priv a2 am fy →
 Calls Try.prog 29 #[.pointer bs, .int .i64 bq, .int .i64 a0, .int .u32 bt] am fun dc aj => ∃ (b7 : Option Addr) (b4 : Int), dc = .returned (.tuple #[.pointer b7, .int .i64 b4]) ∧
 Keep fy am aj ∧
 ∀ (ae : World), Ext (fun b => b ∈ fy) aj ae →
 ∀ (cf : World) (dg : Nat), Ext no ae cf → Blk cf dg 26 [.int .i64 0] → ae.heap.size ≤ dg → dg < cf.heap.size →
 canStore cf ((blk c1).add 0) ∧
 thenW (cf.setCell ((blk c1).add 0) (.pointer b7)) fun ab =>
 canStore ab ((blk dg).add 0) ∧
 thenW (ab.setCell ((blk dg).add 0) (.int .i64 b4)) fun cn =>
 ∃ (g0 : Option Addr), cn.cell? (blk q4) = some (.pointer g0) ∧
 ∃ gm : Addr, g0 = some gm ∧
 ∃ (g6 : Option Addr), cn.cell? (gm.add 0) = some (.pointer g6) ∧
 ∀ (a3 : World) (fc : Nat), Ext no cn a3 → Blk a3 fc 68 [.func (.func 30) #[] #[.pointer (some (blk dg))], .func (.func 31) #[] #[.pointer (some (blk c1)), .pointer (some (blk q6))], .func (.func 33) #[] #[.pointer (some (blk q4)), .pointer (some (blk ai))], .func (.func 37) #[.pointer g6] #[]] → cn.heap.size ≤ fc → fc < a3.heap.size →
 ∃ (I1 : Nat → List Value → World → Prop) (gy : Nat), I1 gy [.int .i64 0] a3 ∧ ∀ (gh : Nat) (a8 : World) (co : Int), I1 gh [.int .i64 co] a8 →
 (co < (4 : Int) →
 0 ≤ (co : Int) ∧ (co : Int) < (4 : Int) ∧
 ∃ (dm : Nat) (ef : Array Value) (em : Array Value), a8.cell? ((blk fc).add (Int.toNat co * 1)) = some (.func (.func dm) ef em) ∧
 ∃ (dq : Option Addr), a8.cell? (blk q4) = some (.pointer dq) ∧
 ∀ (an : World), Ext no a8 an →
 enters Try.prog dm = true ∧ Calls Try.prog dm (ef.toList ++ ([] : List Value) ++ em.toList).toArray an (fun eu a1 => ∃ (ev : Int), eu = .returned (.int .i64 ev) ∧
 a1.cell? (blk q4) = some (.pointer dq) ∧
 Calls Try.prog 38 #[.pointer dq, .int .i64 ev] a1 fun f1 ba => ∃ (b1 : Int), f1 = .returned (.int .i64 b1) ∧
 (b1 ≠ 0 →
 R (.int .i64 b1) ba) ∧
 (b1 = 0 →
 (-9223372036854775808 : Int) ≤ (co + 1) ∧ (co + 1) < 9223372036854775808 ∧
 ∃ ey, ey < gh ∧ I1 ey [.int .i64 (co + 1)] ba))) ∧
 ((4 : Int) ≤ co →
 ∃ (f4 : Option Addr), a8.cell? (blk q4) = some (.pointer f4) ∧
 ∃ (br : Option Addr), a8.cell? (blk q4) = some (.pointer br) ∧
 ∃ (bu : Int), a8.cell? (blk ai) = some (.int .u32 bu) ∧
 ∃ (c0 : Option Addr), a8.cell? (blk c1) = some (.pointer c0) ∧
 ∃ dr : Addr, f4 = some dr ∧
 ∀ (ao : World), Ext no a8 ao →
 canStore ao ((dr.add 2).add 0) ∧
 thenW (ao.setCell ((dr.add 2).add 0) (.int .u32 bu)) fun ad =>
 ad.cell? (blk c1) = some (.pointer c0) ∧
 ad.cell? (blk q4) = some (.pointer br) ∧
 ∃ dv : Addr, br = some dv ∧
 canStore ad ((dv.add 3).add 0) ∧
 thenW (ad.setCell ((dv.add 3).add 0) (.pointer c0)) fun f3 =>
 R (.int .i64 0) f3)) ∧
 (∀ (al : World) (e0 : Nat), Ext no a2 al → Blk al e0 26 [.int .i64 0] → a2.heap.size ≤ e0 → e0 < al.heap.size →
 al.cell? (blk ai) = some (.int .u32 bt) ∧
 al.cell? (ct.add 1) = some (.int .i64 a0) ∧
 al.cell? (blk q4) = some (.pointer d1) ∧
 al.cell? (cx.add 0) = some (.pointer bs) ∧
 al.cell? (blk q4) = some (.pointer d2) ∧
 ∀ (ab : World) (fw : List Nat), Ext no al ab → Priv al ab fw →
 Calls Try.prog 29 #[.pointer bs, .int .i64 bq, .int .i64 a0, .int .u32 bt] ab fun ft bo => ∃ (be : Option Addr) (bd : Int), ft = .returned (.tuple #[.pointer be, .int .i64 bd]) ∧
 Keep fw ab bo ∧
 ∀ (c8 : World), Ext (fun b => b ∈ fw) bo c8 →
 canStore c8 ((blk c1).add 0) ∧
 thenW (c8.setCell ((blk c1).add 0) (.pointer be)) fun ep =>
 canStore ep ((blk e0).add 0) ∧
 thenW (ep.setCell ((blk e0).add 0) (.int .i64 bd)) fun bl =>
 ∃ (gi : Option Addr), bl.cell? (blk q4) = some (.pointer gi) ∧
 ∃ g3 : Addr, gi = some g3 ∧
 ∃ (gj : Option Addr), bl.cell? (g3.add 0) = some (.pointer gj) ∧
 ∀ (a8 : World) (fe : Nat), Ext no bl a8 → Blk a8 fe 68 [.func (.func 30) #[] #[.pointer (some (blk e0))], .func (.func 31) #[] #[.pointer (some (blk c1)), .pointer (some (blk q6))], .func (.func 33) #[] #[.pointer (some (blk q4)), .pointer (some (blk ai))], .func (.func 37) #[.pointer gj] #[]] → bl.heap.size ≤ fe → fe < a8.heap.size →
 ∃ (I1 : Nat → List Value → World → Prop) (gt : Nat), I1 gt [.int .i64 0] a8 ∧ ∀ (ge : Nat) (aw : World) (cr : Int), I1 ge [.int .i64 cr] aw →
 (cr < (4 : Int) →
 0 ≤ (cr : Int) ∧ (cr : Int) < (4 : Int) ∧
 ∃ (c2 : Nat) (cy : Array Value) (d6 : Array Value), aw.cell? ((blk fe).add (Int.toNat cr * 1)) = some (.func (.func c2) cy d6) ∧
 ∃ (dl : Option Addr), aw.cell? (blk q4) = some (.pointer dl) ∧
 ∀ (a1 : World), Ext no aw a1 →
 enters Try.prog c2 = true ∧ Calls Try.prog c2 (cy.toList ++ ([] : List Value) ++ d6.toList).toArray a1 (fun ea cs => ∃ (e5 : Int), ea = .returned (.int .i64 e5) ∧
 cs.cell? (blk q4) = some (.pointer dl) ∧
 Calls Try.prog 38 #[.pointer dl, .int .i64 e5] cs fun c4 aa => ∃ (ar : Int), c4 = .returned (.int .i64 ar) ∧
 (ar ≠ 0 →
 R (.int .i64 ar) aa) ∧
 (ar = 0 →
 (-9223372036854775808 : Int) ≤ (cr + 1) ∧ (cr + 1) < 9223372036854775808 ∧
 ∃ ex, ex < ge ∧ I1 ex [.int .i64 (cr + 1)] aa))) ∧
 ((4 : Int) ≤ cr →
 ∃ (f0 : Option Addr), aw.cell? (blk q4) = some (.pointer f0) ∧
 ∃ (bv : Option Addr), aw.cell? (blk q4) = some (.pointer bv) ∧
 ∃ (aq : Int), aw.cell? (blk ai) = some (.int .u32 aq) ∧
 ∃ (ak : Option Addr), aw.cell? (blk c1) = some (.pointer ak) ∧
 ∃ e1 : Addr, f0 = some e1 ∧
 ∀ (af : World), Ext no aw af →
 canStore af ((e1.add 2).add 0) ∧
 thenW (af.setCell ((e1.add 2).add 0) (.int .u32 aq)) fun ae =>
 ae.cell? (blk c1) = some (.pointer ak) ∧
 ae.cell? (blk q4) = some (.pointer bv) ∧
 ∃ bk : Addr, bv = some bk ∧
 canStore ae ((bk.add 3).add 0) ∧
 thenW (ae.setCell ((bk.add 3).add 0) (.pointer ak)) fun ap =>
 R (.int .i64 0) ap))) ∧
 (∀ (b8 : World), Ext (fun b => b ∈ fz) ch b8 →
 ∀ (a2 : World) (c1 : Nat), Ext no b8 a2 → Blk a2 c1 26 [.int .i64 0] → b8.heap.size ≤ c1 → c1 < a2.heap.size →
 a2.cell? (blk ai) = some (.int .u32 bt) ∧
 a2.cell? (ct.add 1) = some (.int .i64 a0) ∧
 a2.cell? (blk q4) = some (.pointer d1) ∧
 a2.cell? (cx.add 0) = some (.pointer bs) ∧
 a2.cell? (blk q4) = some (.pointer d2) ∧
 (∀ (am : World) (fy : List Nat), Ext no a2 am → Priv a2 am fy →
 Calls Try.prog 29 #[.pointer bs, .int .i64 bq, .int .i64 a0, .int .u32 bt] am fun dc aj => ∃ (b7 : Option Addr) (b4 : Int), dc = .returned (.tuple #[.pointer b7, .int .i64 b4]) ∧
 Keep fy am aj ∧
 ∀ (ae : World), Ext (fun b => b ∈ fy) aj ae →
 ∀ (cf : World) (dg : Nat), Ext no ae cf → Blk cf dg 58 [.pointer none] → ae.heap.size ≤ dg → dg < cf.heap.size →
 canStore cf ((blk dg).add 0) ∧
 thenW (cf.setCell ((blk dg).add 0) (.pointer b7)) fun ab =>
 canStore ab ((blk c1).add 0) ∧
 thenW (ab.setCell ((blk c1).add 0) (.int .i64 b4)) fun cn =>
 ∃ (g0 : Option Addr), cn.cell? (blk q4) = some (.pointer g0) ∧
 ∃ gm : Addr, g0 = some gm ∧
 ∃ (g6 : Option Addr), cn.cell? (gm.add 0) = some (.pointer g6) ∧
 ∀ (a3 : World) (fc : Nat), Ext no cn a3 → Blk a3 fc 68 [.func (.func 30) #[] #[.pointer (some (blk c1))], .func (.func 31) #[] #[.pointer (some (blk dg)), .pointer (some (blk q6))], .func (.func 33) #[] #[.pointer (some (blk q4)), .pointer (some (blk ai))], .func (.func 37) #[.pointer g6] #[]] → cn.heap.size ≤ fc → fc < a3.heap.size →
 ∃ (I1 : Nat → List Value → World → Prop) (gy : Nat), I1 gy [.int .i64 0] a3 ∧ ∀ (gh : Nat) (a8 : World) (co : Int), I1 gh [.int .i64 co] a8 →
 (co < (4 : Int) →
 0 ≤ (co : Int) ∧ (co : Int) < (4 : Int) ∧
 ∃ (dm : Nat) (ef : Array Value) (em : Array Value), a8.cell? ((blk fc).add (Int.toNat co * 1)) = some (.func (.func dm) ef em) ∧
 ∃ (dq : Option Addr), a8.cell? (blk q4) = some (.pointer dq) ∧
 ∀ (an : World), Ext no a8 an →
 enters Try.prog dm = true ∧ Calls Try.prog dm (ef.toList ++ ([] : List Value) ++ em.toList).toArray an (fun eu a1 => ∃ (ev : Int), eu = .returned (.int .i64 ev) ∧
 a1.cell? (blk q4) = some (.pointer dq) ∧
 Calls Try.prog 38 #[.pointer dq, .int .i64 ev] a1 fun f1 ba => ∃ (b1 : Int), f1 = .returned (.int .i64 b1) ∧
 (b1 ≠ 0 →
 R (.int .i64 b1) ba) ∧
 (b1 = 0 →
 (-9223372036854775808 : Int) ≤ (co + 1) ∧ (co + 1) < 9223372036854775808 ∧
 ∃ ey, ey < gh ∧ I1 ey [.int .i64 (co + 1)] ba))) ∧
 ((4 : Int) ≤ co →
 ∃ (f4 : Option Addr), a8.cell? (blk q4) = some (.pointer f4) ∧
 ∃ (br : Option Addr), a8.cell? (blk q4) = some (.pointer br) ∧
 ∃ (bu : Int), a8.cell? (blk ai) = some (.int .u32 bu) ∧
 ∃ (c0 : Option Addr), a8.cell? (blk dg) = some (.pointer c0) ∧
 ∃ dr : Addr, f4 = some dr ∧
 ∀ (ao : World), Ext no a8 ao →
 canStore ao ((dr.add 2).add 0) ∧
 thenW (ao.setCell ((dr.add 2).add 0) (.int .u32 bu)) fun ad =>
 ad.cell? (blk dg) = some (.pointer c0) ∧
 ad.cell? (blk q4) = some (.pointer br) ∧
 ∃ dv : Addr, br = some dv ∧
 canStore ad ((dv.add 3).add 0) ∧
 thenW (ad.setCell ((dv.add 3).add 0) (.pointer c0)) fun f3 =>
 R (.int .i64 0) f3)) ∧
 (∀ (al : World) (e0 : Nat), Ext no a2 al → Blk al e0 58 [.pointer none] → a2.heap.size ≤ e0 → e0 < al.heap.size →
 al.cell? (blk ai) = some (.int .u32 bt) ∧
 al.cell? (ct.add 1) = some (.int .i64 a0) ∧
 al.cell? (blk q4) = some (.pointer d1) ∧
 al.cell? (cx.add 0) = some (.pointer bs) ∧
 al.cell? (blk q4) = some (.pointer d2) ∧
 ∀ (ab : World) (fw : List Nat), Ext no al ab → Priv al ab fw →
 Calls Try.prog 29 #[.pointer bs, .int .i64 bq, .int .i64 a0, .int .u32 bt] ab fun ft bo => ∃ (be : Option Addr) (bd : Int), ft = .returned (.tuple #[.pointer be, .int .i64 bd]) ∧
 Keep fw ab bo ∧
 ∀ (c8 : World), Ext (fun b => b ∈ fw) bo c8 →
 canStore c8 ((blk e0).add 0) ∧
 thenW (c8.setCell ((blk e0).add 0) (.pointer be)) fun ep =>
 canStore ep ((blk c1).add 0) ∧
 thenW (ep.setCell ((blk c1).add 0) (.int .i64 bd)) fun bl =>
 ∃ (gi : Option Addr), bl.cell? (blk q4) = some (.pointer gi) ∧
 ∃ g3 : Addr, gi = some g3 ∧
 ∃ (gj : Option Addr), bl.cell? (g3.add 0) = some (.pointer gj) ∧
 ∀ (a8 : World) (fe : Nat), Ext no bl a8 → Blk a8 fe 68 [.func (.func 30) #[] #[.pointer (some (blk c1))], .func (.func 31) #[] #[.pointer (some (blk e0)), .pointer (some (blk q6))], .func (.func 33) #[] #[.pointer (some (blk q4)), .pointer (some (blk ai))], .func (.func 37) #[.pointer gj] #[]] → bl.heap.size ≤ fe → fe < a8.heap.size →
 ∃ (I1 : Nat → List Value → World → Prop) (gt : Nat), I1 gt [.int .i64 0] a8 ∧ ∀ (ge : Nat) (aw : World) (cr : Int), I1 ge [.int .i64 cr] aw →
 (cr < (4 : Int) →
 0 ≤ (cr : Int) ∧ (cr : Int) < (4 : Int) ∧
 ∃ (c2 : Nat) (cy : Array Value) (d6 : Array Value), aw.cell? ((blk fe).add (Int.toNat cr * 1)) = some (.func (.func c2) cy d6) ∧
 ∃ (dl : Option Addr), aw.cell? (blk q4) = some (.pointer dl) ∧
 ∀ (a1 : World), Ext no aw a1 →
 enters Try.prog c2 = true ∧ Calls Try.prog c2 (cy.toList ++ ([] : List Value) ++ d6.toList).toArray a1 (fun ea cs => ∃ (e5 : Int), ea = .returned (.int .i64 e5) ∧
 cs.cell? (blk q4) = some (.pointer dl) ∧
 Calls Try.prog 38 #[.pointer dl, .int .i64 e5] cs fun c4 aa => ∃ (ar : Int), c4 = .returned (.int .i64 ar) ∧
 (ar ≠ 0 →
 R (.int .i64 ar) aa) ∧
 (ar = 0 →
 (-9223372036854775808 : Int) ≤ (cr + 1) ∧ (cr + 1) < 9223372036854775808 ∧
 ∃ ex, ex < ge ∧ I1 ex [.int .i64 (cr + 1)] aa))) ∧
 ((4 : Int) ≤ cr →
 ∃ (f0 : Option Addr), aw.cell? (blk q4) = some (.pointer f0) ∧
 ∃ (bv : Option Addr), aw.cell? (blk q4) = some (.pointer bv) ∧
 ∃ (aq : Int), aw.cell? (blk ai) = some (.int .u32 aq) ∧
 ∃ (ak : Option Addr), aw.cell? (blk e0) = some (.pointer ak) ∧
 ∃ e1 : Addr, f0 = some e1 ∧
 ∀ (af : World), Ext no aw af →
 canStore af ((e1.add 2).add 0) ∧
 thenW (af.setCell ((e1.add 2).add 0) (.int .u32 aq)) fun ae =>
 ae.cell? (blk e0) = some (.pointer ak) ∧
 ae.cell? (blk q4) = some (.pointer bv) ∧
 ∃ bk : Addr, bv = some bk ∧
 canStore ae ((bk.add 3).add 0) ∧
 thenW (ae.setCell ((bk.add 3).add 0) (.pointer ak)) fun ap =>
 R (.int .i64 0) ap)))) ∧
 (∀ (a6 : World) (bm : Nat), Ext no bx a6 → Blk a6 bm 58 [.pointer none] → bx.heap.size ≤ bm → bm < a6.heap.size →
 a6.cell? (blk ai) = some (.int .u32 bt) ∧
 a6.cell? (ct.add 1) = some (.int .i64 a0) ∧
 a6.cell? (blk q4) = some (.pointer d1) ∧
 a6.cell? (blk ai) = some (.int .u32 f7) ∧
 a6.cell? (blk q4) = some (.pointer f6) ∧
 a6.cell? (cx.add 0) = some (.pointer bs) ∧
 a6.cell? (blk q4) = some (.pointer d2) ∧
 (∀ (a2 : World) (f5 : List Nat), Ext no a6 a2 → Priv a6 a2 f5 →
 Calls Try.prog 27 #[.pointer f6, .int .u32 f7] a2 fun fp au => ∃ (bn : Int), fp = .returned (.int .i64 bn) ∧
 Keep f5 a2 au ∧
 au.cell? (blk ai) = some (.int .u32 bt) ∧
 au.cell? (ct.add 1) = some (.int .i64 a0) ∧
 au.cell? (blk q4) = some (.pointer d1) ∧
 au.cell? (cx.add 0) = some (.pointer bs) ∧
 au.cell? (blk q4) = some (.pointer d2) ∧
 (∀ (bg : World) (fk : List Nat), Ext (fun b => b ∈ f5) au bg → PrivJ f5 au bg fk →
 Calls Try.prog 29 #[.pointer bs, .int .i64 bn, .int .i64 a0, .int .u32 bt] bg fun fu ek => ∃ (b5 : Option Addr) (bb : Int), fu = .returned (.tuple #[.pointer b5, .int .i64 bb]) ∧
 Keep fk bg ek ∧
 ∀ (ac : World), Ext (fun b => b ∈ fk) ek ac →
 ∀ (ab : World) (dw : Nat), Ext no ac ab → Blk ab dw 26 [.int .i64 0] → ac.heap.size ≤ dw → dw < ab.heap.size →
 canStore ab ((blk bm).add 0) ∧
 thenW (ab.setCell ((blk bm).add 0) (.pointer b5)) fun ah =>
 canStore ah ((blk dw).add 0) ∧
 thenW (ah.setCell ((blk dw).add 0) (.int .i64 bb)) fun cm =>
 ∃ (gk : Option Addr), cm.cell? (blk q4) = some (.pointer gk) ∧
 ∃ g5 : Addr, gk = some g5 ∧
 ∃ (g7 : Option Addr), cm.cell? (g5.add 0) = some (.pointer g7) ∧
 ∀ (bj : World) (f9 : Nat), Ext no cm bj → Blk bj f9 68 [.func (.func 30) #[] #[.pointer (some (blk dw))], .func (.func 31) #[] #[.pointer (some (blk bm)), .pointer (some (blk q6))], .func (.func 33) #[] #[.pointer (some (blk q4)), .pointer (some (blk ai))], .func (.func 37) #[.pointer g7] #[]] → cm.heap.size ≤ f9 → f9 < bj.heap.size →
 ∃ (I1 : Nat → List Value → World → Prop) (gw : Nat), I1 gw [.int .i64 0] bj ∧ ∀ (g1 : Nat) (a9 : World) (cl : Int), I1 g1 [.int .i64 cl] a9 →
 (cl < (4 : Int) →
 0 ≤ (cl : Int) ∧ (cl : Int) < (4 : Int) ∧
 ∃ (df : Nat) (eq : Array Value) (e9 : Array Value), a9.cell? ((blk f9).add (Int.toNat cl * 1)) = some (.func (.func df) eq e9) ∧
 ∃ (dz : Option Addr), a9.cell? (blk q4) = some (.pointer dz) ∧
 ∀ (cv : World), Ext no a9 cv →
 enters Try.prog df = true ∧ Calls Try.prog df (eq.toList ++ ([] : List Value) ++ e9.toList).toArray cv (fun ew a5 => ∃ (e3 : Int), ew = .returned (.int .i64 e3) ∧
 a5.cell? (blk q4) = some (.pointer dz) ∧
 Calls Try.prog 38 #[.pointer dz, .int .i64 e3] a5 fun ei d7 => ∃ (az : Int), ei = .returned (.int .i64 az) ∧
 (az ≠ 0 →
 R (.int .i64 az) d7) ∧
 (az = 0 →
 (-9223372036854775808 : Int) ≤ (cl + 1) ∧ (cl + 1) < 9223372036854775808 ∧
 ∃ e7, e7 < g1 ∧ I1 e7 [.int .i64 (cl + 1)] d7))) ∧
 ((4 : Int) ≤ cl →
 ∃ (br : Option Addr), a9.cell? (blk q4) = some (.pointer br) ∧
 ∃ (bu : Option Addr), a9.cell? (blk q4) = some (.pointer bu) ∧
 ∃ (c0 : Int), a9.cell? (blk ai) = some (.int .u32 c0) ∧
 ∃ (ds : Option Addr), a9.cell? (blk bm) = some (.pointer ds) ∧
 ∃ dj : Addr, br = some dj ∧
 ∀ (aa : World), Ext no a9 aa →
 canStore aa ((dj.add 2).add 0) ∧
 thenW (aa.setCell ((dj.add 2).add 0) (.int .u32 c0)) fun bp =>
 bp.cell? (blk bm) = some (.pointer ds) ∧
 bp.cell? (blk q4) = some (.pointer bu) ∧
 ∃ da : Addr, bu = some da ∧
 canStore bp ((da.add 3).add 0) ∧
 thenW (bp.setCell ((da.add 3).add 0) (.pointer ds)) fun eh =>
 R (.int .i64 0) eh)) ∧
 (∀ (bf : World), Ext (fun b => b ∈ f5) au bf →
 ∀ (a4 : World) (dn : Nat), Ext no bf a4 → Blk a4 dn 26 [.int .i64 0] → bf.heap.size ≤ dn → dn < a4.heap.size →
 a4.cell? (blk ai) = some (.int .u32 bt) ∧
 a4.cell? (ct.add 1) = some (.int .i64 a0) ∧
 a4.cell? (blk q4) = some (.pointer d1) ∧
 a4.cell? (cx.add 0) = some (.pointer bs) ∧
 a4.cell? (blk q4) = some (.pointer d2) ∧
 ∀ (ah : World) (fl : List Nat), Ext no a4 ah → Priv a4 ah fl →
 Calls Try.prog 29 #[.pointer bs, .int .i64 bn, .int .i64 a0, .int .u32 bt] ah fun fm bl => ∃ (bc : Option Addr) (b2 : Int), fm = .returned (.tuple #[.pointer bc, .int .i64 b2]) ∧
 Keep fl ah bl ∧
 ∀ (cg : World), Ext (fun b => b ∈ fl) bl cg →
 canStore cg ((blk bm).add 0) ∧
 thenW (cg.setCell ((blk bm).add 0) (.pointer bc)) fun a3 =>
 canStore a3 ((blk dn).add 0) ∧
 thenW (a3.setCell ((blk dn).add 0) (.int .i64 b2)) fun bi =>
 ∃ (ga : Option Addr), bi.cell? (blk q4) = some (.pointer ga) ∧
 ∃ gc : Addr, ga = some gc ∧
 ∃ (gb : Option Addr), bi.cell? (gc.add 0) = some (.pointer gb) ∧
 ∀ (a9 : World) (fb : Nat), Ext no bi a9 → Blk a9 fb 68 [.func (.func 30) #[] #[.pointer (some (blk dn))], .func (.func 31) #[] #[.pointer (some (blk bm)), .pointer (some (blk q6))], .func (.func 33) #[] #[.pointer (some (blk q4)), .pointer (some (blk ai))], .func (.func 37) #[.pointer gb] #[]] → bi.heap.size ≤ fb → fb < a9.heap.size →
 ∃ (I1 : Nat → List Value → World → Prop) (gx : Nat), I1 gx [.int .i64 0] a9 ∧ ∀ (er : Nat) (a7 : World) (cq : Int), I1 er [.int .i64 cq] a7 →
 (cq < (4 : Int) →
 0 ≤ (cq : Int) ∧ (cq : Int) < (4 : Int) ∧
 ∃ (cd : Nat) (d0 : Array Value) (cz : Array Value), a7.cell? ((blk fb).add (Int.toNat cq * 1)) = some (.func (.func cd) d0 cz) ∧
 ∃ (bz : Option Addr), a7.cell? (blk q4) = some (.pointer bz) ∧
 ∀ (a5 : World), Ext no a7 a5 →
 enters Try.prog cd = true ∧ Calls Try.prog cd (d0.toList ++ ([] : List Value) ++ cz.toList).toArray a5 (fun e4 ao => ∃ (el : Int), e4 = .returned (.int .i64 el) ∧
 ao.cell? (blk q4) = some (.pointer bz) ∧
 Calls Try.prog 38 #[.pointer bz, .int .i64 el] ao fun ez d4 => ∃ (av : Int), ez = .returned (.int .i64 av) ∧
 (av ≠ 0 →
 R (.int .i64 av) d4) ∧
 (av = 0 →
 (-9223372036854775808 : Int) ≤ (cq + 1) ∧ (cq + 1) < 9223372036854775808 ∧
 ∃ ee, ee < er ∧ I1 ee [.int .i64 (cq + 1)] d4))) ∧
 ((4 : Int) ≤ cq →
 ∃ (bv : Option Addr), a7.cell? (blk q4) = some (.pointer bv) ∧
 ∃ (aq : Option Addr), a7.cell? (blk q4) = some (.pointer aq) ∧
 ∃ (ak : Int), a7.cell? (blk ai) = some (.int .u32 ak) ∧
 ∃ (bw : Option Addr), a7.cell? (blk bm) = some (.pointer bw) ∧
 ∃ dx : Addr, bv = some dx ∧
 ∀ (c9 : World), Ext no a7 c9 →
 canStore c9 ((dx.add 2).add 0) ∧
 thenW (c9.setCell ((dx.add 2).add 0) (.int .u32 ak)) fun ac =>
 ac.cell? (blk bm) = some (.pointer bw) ∧
 ac.cell? (blk q4) = some (.pointer aq) ∧
 ∃ db : Addr, aq = some db ∧
 canStore ac ((db.add 3).add 0) ∧
 thenW (ac.setCell ((db.add 3).add 0) (.pointer bw)) fun b8 =>
 R (.int .i64 0) b8))) ∧
 (∀ (ag : World) (dh : Nat), Ext no a6 ag → Blk ag dh 26 [.int .i64 0] → a6.heap.size ≤ dh → dh < ag.heap.size →
 ag.cell? (blk ai) = some (.int .u32 bt) ∧
 ag.cell? (ct.add 1) = some (.int .i64 a0) ∧
 ag.cell? (blk q4) = some (.pointer d1) ∧
 ag.cell? (blk ai) = some (.int .u32 f7) ∧
 ag.cell? (blk q4) = some (.pointer f6) ∧
 ag.cell? (cx.add 0) = some (.pointer bs) ∧
 ag.cell? (blk q4) = some (.pointer d2) ∧
 ∀ (a4 : World) (fd : List Nat), Ext no ag a4 → Priv ag a4 fd →
 Calls Try.prog 27 #[.pointer f6, .int .u32 f7] a4 fun dc aj => ∃ (ce : Int), dc = .returned (.int .i64 ce) ∧
 Keep fd a4 aj ∧
 aj.cell? (blk ai) = some (.int .u32 bt) ∧
 aj.cell? (ct.add 1) = some (.int .i64 a0) ∧
 aj.cell? (blk q4) = some (.pointer d1) ∧
 aj.cell? (cx.add 0) = some (.pointer bs) ∧
 aj.cell? (blk q4) = some (.pointer d2) ∧
 ∀ (bo : World) (fh : List Nat), Ext (fun b => b ∈ fd) aj bo → PrivJ fd aj bo fh →
 Calls Try.prog 29 #[.pointer bs, .int .i64 ce, .int .i64 a0, .int .u32 bt] bo fun fv bi => ∃ (b3 : Option Addr) (b6 : Int), fv = .returned (.tuple #[.pointer b3, .int .i64 b6]) ∧
 Keep fh bo bi ∧
 ∀ (c6 : World), Ext (fun b => b ∈ fh) bi c6 →
 canStore c6 ((blk bm).add 0) ∧
 thenW (c6.setCell ((blk bm).add 0) (.pointer b3)) fun bj =>
 canStore bj ((blk dh).add 0) ∧
 thenW (bj.setCell ((blk dh).add 0) (.int .i64 b6)) fun ck =>
 ∃ (g4 : Option Addr), ck.cell? (blk q4) = some (.pointer g4) ∧
 ∃ g2 : Addr, g4 = some g2 ∧
 ∃ (gn : Option Addr), ck.cell? (g2.add 0) = some (.pointer gn) ∧
 ∀ (an : World) (ff : Nat), Ext no ck an → Blk an ff 68 [.func (.func 30) #[] #[.pointer (some (blk dh))], .func (.func 31) #[] #[.pointer (some (blk bm)), .pointer (some (blk q6))], .func (.func 33) #[] #[.pointer (some (blk q4)), .pointer (some (blk ai))], .func (.func 37) #[.pointer gn] #[]] → ck.heap.size ≤ ff → ff < an.heap.size →
 ∃ (I1 : Nat → List Value → World → Prop) (fq : Nat), I1 fq [.int .i64 0] an ∧ ∀ (eb : Nat) (a1 : World) (ay : Int), I1 eb [.int .i64 ay] a1 →
 (ay < (4 : Int) →
 0 ≤ (ay : Int) ∧ (ay : Int) < (4 : Int) ∧
 ∃ (c3 : Nat) (d3 : Array Value) (cu : Array Value), a1.cell? ((blk ff).add (Int.toNat ay * 1)) = some (.func (.func c3) d3 cu) ∧
 ∃ (bh : Option Addr), a1.cell? (blk q4) = some (.pointer bh) ∧
 ∀ (ba : World), Ext no a1 ba →
 enters Try.prog c3 = true ∧ Calls Try.prog c3 (d3.toList ++ ([] : List Value) ++ cu.toList).toArray ba (fun c4 aa => ∃ (f2 : Int), c4 = .returned (.int .i64 f2) ∧
 aa.cell? (blk q4) = some (.pointer bh) ∧
 Calls Try.prog 38 #[.pointer bh, .int .i64 f2] aa fun ed cw => ∃ (b0 : Int), ed = .returned (.int .i64 b0) ∧
 (b0 ≠ 0 →
 R (.int .i64 b0) cw) ∧
 (b0 = 0 →
 (-9223372036854775808 : Int) ≤ (ay + 1) ∧ (ay + 1) < 9223372036854775808 ∧
 ∃ e6, e6 < eb ∧ I1 e6 [.int .i64 (ay + 1)] cw))) ∧
 ((4 : Int) ≤ ay →
 ∃ (aq : Option Addr), a1.cell? (blk q4) = some (.pointer aq) ∧
 ∃ (ak : Option Addr), a1.cell? (blk q4) = some (.pointer ak) ∧
 ∃ (bw : Int), a1.cell? (blk ai) = some (.int .u32 bw) ∧
 ∃ (d9 : Option Addr), a1.cell? (blk bm) = some (.pointer d9) ∧
 ∃ bk : Addr, aq = some bk ∧
 ∀ (b9 : World), Ext no a1 b9 →
 canStore b9 ((bk.add 2).add 0) ∧
 thenW (b9.setCell ((bk.add 2).add 0) (.int .u32 bw)) fun ap =>
 ap.cell? (blk bm) = some (.pointer d9) ∧
 ap.cell? (blk q4) = some (.pointer ak) ∧
 ∃ di : Addr, ak = some di ∧
 canStore ap ((di.add 3).add 0) ∧
 thenW (ap.setCell ((di.add 3).add 0) (.pointer d9)) fun bf =>
 R (.int .i64 0) bf))) ∧
 (∀ (a6 : World) (bm : Nat), Ext no bx a6 → Blk a6 bm 26 [.int .i64 0] → bx.heap.size ≤ bm → bm < a6.heap.size →
 a6.cell? (blk ai) = some (.int .u32 bt) ∧
 a6.cell? (ct.add 1) = some (.int .i64 a0) ∧
 a6.cell? (blk q4) = some (.pointer d1) ∧
 a6.cell? (blk ai) = some (.int .u32 f7) ∧
 a6.cell? (blk q4) = some (.pointer f6) ∧
 a6.cell? (cx.add 0) = some (.pointer bs) ∧
 a6.cell? (blk q4) = some (.pointer d2) ∧
 (∀ (a2 : World) (f5 : List Nat), Ext no a6 a2 → Priv a6 a2 f5 →
 Calls Try.prog 27 #[.pointer f6, .int .u32 f7] a2 fun fp au => ∃ (bn : Int), fp = .returned (.int .i64 bn) ∧
 Keep f5 a2 au ∧
 au.cell? (blk ai) = some (.int .u32 bt) ∧
 au.cell? (ct.add 1) = some (.int .i64 a0) ∧
 au.cell? (blk q4) = some (.pointer d1) ∧
 au.cell? (cx.add 0) = some (.pointer bs) ∧
 au.cell? (blk q4) = some (.pointer d2) ∧
 (∀ (bg : World) (fk : List Nat), Ext (fun b => b ∈ f5) au bg → PrivJ f5 au bg fk →
 Calls Try.prog 29 #[.pointer bs, .int .i64 bn, .int .i64 a0, .int .u32 bt] bg fun fu ek => ∃ (b5 : Option Addr) (bb : Int), fu = .returned (.tuple #[.pointer b5, .int .i64 bb]) ∧
 Keep fk bg ek ∧
 ∀ (ac : World), Ext (fun b => b ∈ fk) ek ac →
 ∀ (ab : World) (dw : Nat), Ext no ac ab → Blk ab dw 58 [.pointer none] → ac.heap.size ≤ dw → dw < ab.heap.size →
 canStore ab ((blk dw).add 0) ∧
 thenW (ab.setCell ((blk dw).add 0) (.pointer b5)) fun ah =>
 canStore ah ((blk bm).add 0) ∧
 thenW (ah.setCell ((blk bm).add 0) (.int .i64 bb)) fun cm =>
 ∃ (gk : Option Addr), cm.cell? (blk q4) = some (.pointer gk) ∧
 ∃ g5 : Addr, gk = some g5 ∧
 ∃ (g7 : Option Addr), cm.cell? (g5.add 0) = some (.pointer g7) ∧
 ∀ (bj : World) (f9 : Nat), Ext no cm bj → Blk bj f9 68 [.func (.func 30) #[] #[.pointer (some (blk bm))], .func (.func 31) #[] #[.pointer (some (blk dw)), .pointer (some (blk q6))], .func (.func 33) #[] #[.pointer (some (blk q4)), .pointer (some (blk ai))], .func (.func 37) #[.pointer g7] #[]] → cm.heap.size ≤ f9 → f9 < bj.heap.size →
 ∃ (I1 : Nat → List Value → World → Prop) (gw : Nat), I1 gw [.int .i64 0] bj ∧ ∀ (g1 : Nat) (a9 : World) (cl : Int), I1 g1 [.int .i64 cl] a9 →
 (cl < (4 : Int) →
 0 ≤ (cl : Int) ∧ (cl : Int) < (4 : Int) ∧
 ∃ (df : Nat) (eq : Array Value) (e9 : Array Value), a9.cell? ((blk f9).add (Int.toNat cl * 1)) = some (.func (.func df) eq e9) ∧
 ∃ (dz : Option Addr), a9.cell? (blk q4) = some (.pointer dz) ∧
 ∀ (cv : World), Ext no a9 cv →
 enters Try.prog df = true ∧ Calls Try.prog df (eq.toList ++ ([] : List Value) ++ e9.toList).toArray cv (fun ew a5 => ∃ (e3 : Int), ew = .returned (.int .i64 e3) ∧
 a5.cell? (blk q4) = some (.pointer dz) ∧
 Calls Try.prog 38 #[.pointer dz, .int .i64 e3] a5 fun ei d7 => ∃ (az : Int), ei = .returned (.int .i64 az) ∧
 (az ≠ 0 →
 R (.int .i64 az) d7) ∧
 (az = 0 →
 (-9223372036854775808 : Int) ≤ (cl + 1) ∧ (cl + 1) < 9223372036854775808 ∧
 ∃ e7, e7 < g1 ∧ I1 e7 [.int .i64 (cl + 1)] d7))) ∧
 ((4 : Int) ≤ cl →
 ∃ (br : Option Addr), a9.cell? (blk q4) = some (.pointer br) ∧
 ∃ (bu : Option Addr), a9.cell? (blk q4) = some (.pointer bu) ∧
 ∃ (c0 : Int), a9.cell? (blk ai) = some (.int .u32 c0) ∧
 ∃ (ds : Option Addr), a9.cell? (blk dw) = some (.pointer ds) ∧
 ∃ dj : Addr, br = some dj ∧
 ∀ (aa : World), Ext no a9 aa →
 canStore aa ((dj.add 2).add 0) ∧
 thenW (aa.setCell ((dj.add 2).add 0) (.int .u32 c0)) fun bp =>
 bp.cell? (blk dw) = some (.pointer ds) ∧
 bp.cell? (blk q4) = some (.pointer bu) ∧
 ∃ da : Addr, bu = some da ∧
 canStore bp ((da.add 3).add 0) ∧
 thenW (bp.setCell ((da.add 3).add 0) (.pointer ds)) fun eh =>
 R (.int .i64 0) eh)) ∧
 (∀ (bf : World), Ext (fun b => b ∈ f5) au bf →
 ∀ (a4 : World) (dn : Nat), Ext no bf a4 → Blk a4 dn 58 [.pointer none] → bf.heap.size ≤ dn → dn < a4.heap.size →
 a4.cell? (blk ai) = some (.int .u32 bt) ∧
 a4.cell? (ct.add 1) = some (.int .i64 a0) ∧
 a4.cell? (blk q4) = some (.pointer d1) ∧
 a4.cell? (cx.add 0) = some (.pointer bs) ∧
 a4.cell? (blk q4) = some (.pointer d2) ∧
 ∀ (ah : World) (fl : List Nat), Ext no a4 ah → Priv a4 ah fl →
 Calls Try.prog 29 #[.pointer bs, .int .i64 bn, .int .i64 a0, .int .u32 bt] ah fun fm bl => ∃ (bc : Option Addr) (b2 : Int), fm = .returned (.tuple #[.pointer bc, .int .i64 b2]) ∧
 Keep fl ah bl ∧
 ∀ (cg : World), Ext (fun b => b ∈ fl) bl cg →
 canStore cg ((blk dn).add 0) ∧
 thenW (cg.setCell ((blk dn).add 0) (.pointer bc)) fun a3 =>
 canStore a3 ((blk bm).add 0) ∧
 thenW (a3.setCell ((blk bm).add 0) (.int .i64 b2)) fun bi =>
 ∃ (ga : Option Addr), bi.cell? (blk q4) = some (.pointer ga) ∧
 ∃ gc : Addr, ga = some gc ∧
 ∃ (gb : Option Addr), bi.cell? (gc.add 0) = some (.pointer gb) ∧
 ∀ (a9 : World) (fb : Nat), Ext no bi a9 → Blk a9 fb 68 [.func (.func 30) #[] #[.pointer (some (blk bm))], .func (.func 31) #[] #[.pointer (some (blk dn)), .pointer (some (blk q6))], .func (.func 33) #[] #[.pointer (some (blk q4)), .pointer (some (blk ai))], .func (.func 37) #[.pointer gb] #[]] → bi.heap.size ≤ fb → fb < a9.heap.size →
 ∃ (I1 : Nat → List Value → World → Prop) (gx : Nat), I1 gx [.int .i64 0] a9 ∧ ∀ (er : Nat) (a7 : World) (cq : Int), I1 er [.int .i64 cq] a7 →
 (cq < (4 : Int) →
 0 ≤ (cq : Int) ∧ (cq : Int) < (4 : Int) ∧
 ∃ (cd : Nat) (d0 : Array Value) (cz : Array Value), a7.cell? ((blk fb).add (Int.toNat cq * 1)) = some (.func (.func cd) d0 cz) ∧
 ∃ (bz : Option Addr), a7.cell? (blk q4) = some (.pointer bz) ∧
 ∀ (a5 : World), Ext no a7 a5 →
 enters Try.prog cd = true ∧ Calls Try.prog cd (d0.toList ++ ([] : List Value) ++ cz.toList).toArray a5 (fun e4 ao => ∃ (el : Int), e4 = .returned (.int .i64 el) ∧
 ao.cell? (blk q4) = some (.pointer bz) ∧
 Calls Try.prog 38 #[.pointer bz, .int .i64 el] ao fun ez d4 => ∃ (av : Int), ez = .returned (.int .i64 av) ∧
 (av ≠ 0 →
 R (.int .i64 av) d4) ∧
 (av = 0 →
 (-9223372036854775808 : Int) ≤ (cq + 1) ∧ (cq + 1) < 9223372036854775808 ∧
 ∃ ee, ee < er ∧ I1 ee [.int .i64 (cq + 1)] d4))) ∧
 ((4 : Int) ≤ cq →
 ∃ (bv : Option Addr), a7.cell? (blk q4) = some (.pointer bv) ∧
 ∃ (aq : Option Addr), a7.cell? (blk q4) = some (.pointer aq) ∧
 ∃ (ak : Int), a7.cell? (blk ai) = some (.int .u32 ak) ∧
 ∃ (bw : Option Addr), a7.cell? (blk dn) = some (.pointer bw) ∧
 ∃ dx : Addr, bv = some dx ∧
 ∀ (c9 : World), Ext no a7 c9 →
 canStore c9 ((dx.add 2).add 0) ∧
 thenW (c9.setCell ((dx.add 2).add 0) (.int .u32 ak)) fun ac =>
 ac.cell? (blk dn) = some (.pointer bw) ∧
 ac.cell? (blk q4) = some (.pointer aq) ∧
 ∃ db : Addr, aq = some db ∧
 canStore ac ((db.add 3).add 0) ∧
 thenW (ac.setCell ((db.add 3).add 0) (.pointer bw)) fun b8 =>
 R (.int .i64 0) b8))) ∧
 (∀ (ag : World) (dh : Nat), Ext no a6 ag → Blk ag dh 58 [.pointer none] → a6.heap.size ≤ dh → dh < ag.heap.size →
 ag.cell? (blk ai) = some (.int .u32 bt) ∧
 ag.cell? (ct.add 1) = some (.int .i64 a0) ∧
 ag.cell? (blk q4) = some (.pointer d1) ∧
 ag.cell? (blk ai) = some (.int .u32 f7) ∧
 ag.cell? (blk q4) = some (.pointer f6) ∧
 ag.cell? (cx.add 0) = some (.pointer bs) ∧
 ag.cell? (blk q4) = some (.pointer d2) ∧
 ∀ (a4 : World) (fd : List Nat), Ext no ag a4 → Priv ag a4 fd →
 Calls Try.prog 27 #[.pointer f6, .int .u32 f7] a4 fun dc aj => ∃ (ce : Int), dc = .returned (.int .i64 ce) ∧
 Keep fd a4 aj ∧
 aj.cell? (blk ai) = some (.int .u32 bt) ∧
 aj.cell? (ct.add 1) = some (.int .i64 a0) ∧
 aj.cell? (blk q4) = some (.pointer d1) ∧
 aj.cell? (cx.add 0) = some (.pointer bs) ∧
 aj.cell? (blk q4) = some (.pointer d2) ∧
 ∀ (bo : World) (fh : List Nat), Ext (fun b => b ∈ fd) aj bo → PrivJ fd aj bo fh →
 Calls Try.prog 29 #[.pointer bs, .int .i64 ce, .int .i64 a0, .int .u32 bt] bo fun fv bi => ∃ (b3 : Option Addr) (b6 : Int), fv = .returned (.tuple #[.pointer b3, .int .i64 b6]) ∧
 Keep fh bo bi ∧
 ∀ (c6 : World), Ext (fun b => b ∈ fh) bi c6 →
 canStore c6 ((blk dh).add 0) ∧
 thenW (c6.setCell ((blk dh).add 0) (.pointer b3)) fun bj =>
 canStore bj ((blk bm).add 0) ∧
 thenW (bj.setCell ((blk bm).add 0) (.int .i64 b6)) fun ck =>
 ∃ (g4 : Option Addr), ck.cell? (blk q4) = some (.pointer g4) ∧
 ∃ g2 : Addr, g4 = some g2 ∧
 ∃ (gn : Option Addr), ck.cell? (g2.add 0) = some (.pointer gn) ∧
 ∀ (an : World) (ff : Nat), Ext no ck an → Blk an ff 68 [.func (.func 30) #[] #[.pointer (some (blk bm))], .func (.func 31) #[] #[.pointer (some (blk dh)), .pointer (some (blk q6))], .func (.func 33) #[] #[.pointer (some (blk q4)), .pointer (some (blk ai))], .func (.func 37) #[.pointer gn] #[]] → ck.heap.size ≤ ff → ff < an.heap.size →
 ∃ (I1 : Nat → List Value → World → Prop) (fq : Nat), I1 fq [.int .i64 0] an ∧ ∀ (eb : Nat) (a1 : World) (ay : Int), I1 eb [.int .i64 ay] a1 →
 (ay < (4 : Int) →
 0 ≤ (ay : Int) ∧ (ay : Int) < (4 : Int) ∧
 ∃ (c3 : Nat) (d3 : Array Value) (cu : Array Value), a1.cell? ((blk ff).add (Int.toNat ay * 1)) = some (.func (.func c3) d3 cu) ∧
 ∃ (bh : Option Addr), a1.cell? (blk q4) = some (.pointer bh) ∧
 ∀ (ba : World), Ext no a1 ba →
 enters Try.prog c3 = true ∧ Calls Try.prog c3 (d3.toList ++ ([] : List Value) ++ cu.toList).toArray ba (fun c4 aa => ∃ (f2 : Int), c4 = .returned (.int .i64 f2) ∧
 aa.cell? (blk q4) = some (.pointer bh) ∧
 Calls Try.prog 38 #[.pointer bh, .int .i64 f2] aa fun ed cw => ∃ (b0 : Int), ed = .returned (.int .i64 b0) ∧
 (b0 ≠ 0 →
 R (.int .i64 b0) cw) ∧
 (b0 = 0 →
 (-9223372036854775808 : Int) ≤ (ay + 1) ∧ (ay + 1) < 9223372036854775808 ∧
 ∃ e6, e6 < eb ∧ I1 e6 [.int .i64 (ay + 1)] cw))) ∧
 ((4 : Int) ≤ ay →
 ∃ (aq : Option Addr), a1.cell? (blk q4) = some (.pointer aq) ∧
 ∃ (ak : Option Addr), a1.cell? (blk q4) = some (.pointer ak) ∧
 ∃ (bw : Int), a1.cell? (blk ai) = some (.int .u32 bw) ∧
 ∃ (d9 : Option Addr), a1.cell? (blk dh) = some (.pointer d9) ∧
 ∃ bk : Addr, aq = some bk ∧
 ∀ (b9 : World), Ext no a1 b9 →
 canStore b9 ((bk.add 2).add 0) ∧
 thenW (b9.setCell ((bk.add 2).add 0) (.int .u32 bw)) fun ap =>
 ap.cell? (blk dh) = some (.pointer d9) ∧
 ap.cell? (blk q4) = some (.pointer ak) ∧
 ∃ di : Addr, ak = some di ∧
 canStore ap ((di.add 3).add 0) ∧
 thenW (ap.setCell ((di.add 3).add 0) (.pointer d9)) fun bf =>
 R (.int .i64 0) bf))))))))

theorem snapshot_Store_Compact.up (s1 : Option Addr) (eq : Option Addr) (ea : Nat) (ef : Nat) {R : Value → World → Prop} {w : World} (h : snapshot_Store_Compact.N s1 eq ea ef R w) : snapshot_Store_Compact.M s1 eq ea ef R w := by
  unfold snapshot_Store_Compact.M
  unfold snapshot_Store_Compact.N at h
  refine thenW_in fun jq e3 => ?_
  have h := h jq w.heap.size ((Ext.refl no w).x_alloc e3) (Blk.of_new e3) ((Ext.refl no w)).size (size_lt_alloc e3)
  refine thenW_in fun m6 e5 => ?_
  have h := h m6 jq.heap.size ((Ext.refl no jq).x_alloc e5) (Blk.of_new e5) ((Ext.refl no jq)).size (size_lt_alloc e5)
  obtain ⟨x8, mp, h⟩ := h
  refine ⟨x8, mp, ?_⟩
  refine bif_of (fun c9 => ?_) (fun c9 => ?_)
  · have h := h.1 (isNone_t c9)
    exact h
  · have h := h.2 (isNone_f c9)
    obtain ⟨l5, im, ln, lp, h⟩ := h
    refine ⟨l5, im, ln, lp, ?_⟩
    refine (journal_Parts.pure (im : Int)).mono fun ee ww12 ⟨he, hxx⟩ => ⟨(journal_Parts.F (im : Int)), he, ?_⟩
    have ac := (Ext.refl no m6).trans hxx
    refine bif_of (fun kh => ?_) (fun kh => ?_)
    · have h := h.1 (beq_t kh)
      have h := h ww12 ac
      exact h
    · have h := h.2 (beq_f kh)
      obtain ⟨mc, ky, h⟩ := h
      refine ⟨mc, (ac).cell ky id, ?_⟩
      obtain ⟨mx, lu, h⟩ := h
      refine elim_some lu ?_
      obtain ⟨ff, m5, h⟩ := h
      refine ⟨ff, (ac).cell m5 id, ?_⟩
      refine bif_of (fun jt => ?_) (fun jt => ?_)
      · have h := h.1 jt
        have h := h ww12 ac
        exact h
      · have h := h.2 jt
        obtain ⟨mq, kj, h⟩ := h
        refine ⟨mq, (ac).cell kj id, ?_⟩
        obtain ⟨mu, jz, h⟩ := h
        refine elim_some jz ?_
        obtain ⟨dz, k3, h⟩ := h
        refine ⟨dz, (ac).cell k3 id, ?_⟩
        refine bif_of (fun lc => ?_) (fun lc => ?_)
        · have h := h.1 (beq_t lc)
          have h := h ww12 ac
          exact h
        · have h := h.2 (beq_f lc)
          obtain ⟨mr, m0, h⟩ := h
          refine ⟨mr, (ac).cell m0 id, ?_⟩
          obtain ⟨mw, kd, h⟩ := h
          refine elim_some kd ?_
          obtain ⟨j3, l7, h⟩ := h
          refine ⟨j3, (ac).cell l7 id, ?_⟩
          refine bif_of (fun kx => ?_) (fun kx => ?_)
          · have h := h.1 (of_decide_eq_true kx)
            have h := h ww12 ac
            exact h
          · have h := h.2 (Int.not_lt.1 (of_decide_eq_false kx))
            obtain ⟨me, la, h⟩ := h
            refine ⟨me, (ac).cell la id, ?_⟩
            obtain ⟨mv, jx, h⟩ := h
            refine elim_some jx ?_
            obtain ⟨eb, kq, h⟩ := h
            refine ⟨eb, (ac).cell kq id, ?_⟩
            refine thenW_in fun lm l4 => ?_
            have h := h lm ww12.heap.size (ac.x_alloc l4) (Blk.of_new l4) (ac).size (size_lt_alloc l4)
            obtain ⟨hcs, h⟩ := h
            refine ⟨hcs, thenW_in fun lh m9 => ?_⟩
            replace h := thenW_out h m9
            refine thenW_in fun ip mn => ?_
            have aj := (Ext.refl no lh).x_drew mn
            obtain ⟨ml, m3, h⟩ := h
            refine ⟨ml, (aj).cell m3 id, ?_⟩
            obtain ⟨mt, ju, h⟩ := h
            refine elim_some ju ?_
            obtain ⟨md, jy, h⟩ := h
            refine ⟨md, (aj).cell jy id, ?_⟩
            obtain ⟨mo, ks, h⟩ := h
            refine ⟨mo, (aj).cell ks id, ?_⟩
            obtain ⟨ma, kk, h⟩ := h
            refine ⟨ma, (aj).cell kk id, ?_⟩
            obtain ⟨mb, kb, h⟩ := h
            refine ⟨mb, (aj).cell kb id, ?_⟩
            obtain ⟨ms, lk, h⟩ := h
            refine elim_some lk ?_
            obtain ⟨iq, li, h⟩ := h
            refine ⟨iq, (aj).cell li id, ?_⟩
            obtain ⟨mf, kc, h⟩ := h
            refine ⟨mf, (aj).cell kc id, ?_⟩
            obtain ⟨h0', h1', h2'⟩ := h
            refine ⟨?_, ?_, ?_⟩
            · have h := h0'
              have h := h ip [] aj Priv.nil
              refine h.mono fun mi ai h => ?_
              obtain ⟨fy, he, hkL, h⟩ := h
              refine ⟨fy, he, ?_⟩
              obtain ⟨e0, dc, er, dp, kv, h⟩ := h
              refine ⟨e0, dc, er, dp, kv, ?_⟩
              obtain ⟨h0', h1', h2'⟩ := h
              refine ⟨?_, ?_, ?_⟩
              · have h := h0'
                have h := h ai [] (Ext.refl (fun b => b ∈ ([] : List Nat)) ai) PrivJ.nil
                refine h.mono fun mg bk h => ?_
                obtain ⟨dl, di, he, hkL, h⟩ := h
                refine ⟨dl, di, he, ?_⟩
                obtain ⟨h0', h1'⟩ := h
                refine ⟨?_, ?_⟩
                · have h := h0'
                  have h := h bk (Ext.refl (fun b => b ∈ ([] : List Nat)) bk)
                  refine thenW_in fun bl iw => ?_
                  have h := h bl bk.heap.size ((Ext.refl no bk).x_alloc iw) (Blk.of_new iw) ((Ext.refl no bk)).size (size_lt_alloc iw)
                  refine thenW_in fun ge fg => ?_
                  have h := h ge bl.heap.size ((Ext.refl no bl).x_alloc fg) (Blk.of_new fg) ((Ext.refl no bl)).size (size_lt_alloc fg)
                  obtain ⟨hcs, h⟩ := h
                  refine ⟨hcs, thenW_in fun l1 jv => ?_⟩
                  replace h := thenW_out h jv
                  obtain ⟨hcs, h⟩ := h
                  refine ⟨hcs, thenW_in fun c0 jw => ?_⟩
                  replace h := thenW_out h jw
                  obtain ⟨lj, gx, h⟩ := h
                  refine ⟨lj, gx, ?_⟩
                  obtain ⟨mm, fk, h⟩ := h
                  refine elim_some fk ?_
                  obtain ⟨ls, gf, h⟩ := h
                  refine ⟨ls, gf, ?_⟩
                  refine thenW_in fun eo dq => ?_
                  have h := h eo c0.heap.size ((Ext.refl no c0).x_alloc dq) (Blk.of_new dq) ((Ext.refl no c0)).size (size_lt_alloc dq)
                  obtain ⟨I1, lo, h0, h⟩ := h
                  refine ⟨I1, lo, h0, fun l8 ae kf hI => ?_⟩
                  have h := h l8 ae kf hI
                  refine bif_of (fun i4 => ?_) (fun i4 => ?_)
                  · have h := h.1 (of_decide_eq_true i4)
                    obtain ⟨b8, bh, h⟩ := h
                    refine ⟨b8, bh, ?_⟩
                    obtain ⟨fr, g5, iy, c1, h⟩ := h
                    refine ⟨fr, g5, iy, c1, ?_⟩
                    refine thenW_in fun ix k9 => ?_
                    have d8 := (Ext.refl no ae).x_drew k9
                    obtain ⟨kp, d1, h⟩ := h
                    refine ⟨kp, (d8).cell d1 id, ?_⟩
                    have h := h ix d8
                    obtain ⟨hen, h⟩ := h
                    refine bif_tt hen ?_
                    refine h.mono fun lv bm h => ?_
                    obtain ⟨lw, he, h⟩ := h
                    refine ⟨lw, he, ?_⟩
                    obtain ⟨g7, h⟩ := h
                    refine ⟨g7, ?_⟩
                    refine h.mono fun jn jb h => ?_
                    obtain ⟨bx, he, h⟩ := h
                    refine ⟨bx, he, ?_⟩
                    refine bif_of (fun ca => ?_) (fun ca => ?_)
                    · have h := h.1 (bne_t ca)
                      exact h
                    · have h := h.2 (bne_f ca)
                      obtain ⟨ar, bi, h⟩ := h
                      try rw [w64 ar bi]
                      obtain ⟨gg, hk, h⟩ := h
                      exact ⟨gg, hk, h⟩
                  · have h := h.2 (Int.not_lt.1 (of_decide_eq_false i4))
                    refine thenW_in fun ab cv => ?_
                    have a0 := (Ext.refl no ae).x_drew cv
                    obtain ⟨cw, b9, h⟩ := h
                    refine ⟨cw, (a0).cell b9 id, ?_⟩
                    obtain ⟨cx, bc, h⟩ := h
                    refine ⟨cx, (a0).cell bc id, ?_⟩
                    obtain ⟨i0, dw, h⟩ := h
                    refine ⟨i0, (a0).cell dw id, ?_⟩
                    obtain ⟨i3, f2, h⟩ := h
                    refine ⟨i3, (a0).cell f2 id, ?_⟩
                    obtain ⟨k6, es, h⟩ := h
                    refine elim_some es ?_
                    have h := h ab a0
                    obtain ⟨hcs, h⟩ := h
                    refine ⟨hcs, thenW_in fun bq c3 => ?_⟩
                    replace h := thenW_out h c3
                    obtain ⟨df, f1, h⟩ := h
                    refine ⟨df, f1, ?_⟩
                    obtain ⟨ll, e6, h⟩ := h
                    refine elim_some e6 ?_
                    obtain ⟨hcs, h⟩ := h
                    refine ⟨hcs, thenW_in fun bt cs => ?_⟩
                    replace h := thenW_out h cs
                    exact h
                · have h := h1'
                  have h := h bk (Ext.refl (fun b => b ∈ ([] : List Nat)) bk)
                  refine thenW_in fun bl iw => ?_
                  have h := h bl bk.heap.size ((Ext.refl no bk).x_alloc iw) (Blk.of_new iw) ((Ext.refl no bk)).size (size_lt_alloc iw)
                  refine thenW_in fun ge fg => ?_
                  have h := h ge bl.heap.size ((Ext.refl no bl).x_alloc fg) (Blk.of_new fg) ((Ext.refl no bl)).size (size_lt_alloc fg)
                  obtain ⟨hcs, h⟩ := h
                  refine ⟨hcs, thenW_in fun l1 jv => ?_⟩
                  replace h := thenW_out h jv
                  obtain ⟨hcs, h⟩ := h
                  refine ⟨hcs, thenW_in fun c0 jw => ?_⟩
                  replace h := thenW_out h jw
                  obtain ⟨lj, gx, h⟩ := h
                  refine ⟨lj, gx, ?_⟩
                  obtain ⟨mm, fk, h⟩ := h
                  refine elim_some fk ?_
                  obtain ⟨ls, gf, h⟩ := h
                  refine ⟨ls, gf, ?_⟩
                  refine thenW_in fun eo dq => ?_
                  have h := h eo c0.heap.size ((Ext.refl no c0).x_alloc dq) (Blk.of_new dq) ((Ext.refl no c0)).size (size_lt_alloc dq)
                  obtain ⟨I1, lo, h0, h⟩ := h
                  refine ⟨I1, lo, h0, fun l8 ae kf hI => ?_⟩
                  have h := h l8 ae kf hI
                  refine bif_of (fun i4 => ?_) (fun i4 => ?_)
                  · have h := h.1 (of_decide_eq_true i4)
                    obtain ⟨b8, bh, h⟩ := h
                    refine ⟨b8, bh, ?_⟩
                    obtain ⟨fr, g5, iy, c1, h⟩ := h
                    refine ⟨fr, g5, iy, c1, ?_⟩
                    refine thenW_in fun ix k9 => ?_
                    have d8 := (Ext.refl no ae).x_drew k9
                    obtain ⟨kp, d1, h⟩ := h
                    refine ⟨kp, (d8).cell d1 id, ?_⟩
                    have h := h ix d8
                    obtain ⟨hen, h⟩ := h
                    refine bif_tt hen ?_
                    refine h.mono fun lv bm h => ?_
                    obtain ⟨lw, he, h⟩ := h
                    refine ⟨lw, he, ?_⟩
                    obtain ⟨g7, h⟩ := h
                    refine ⟨g7, ?_⟩
                    refine h.mono fun jn jb h => ?_
                    obtain ⟨bx, he, h⟩ := h
                    refine ⟨bx, he, ?_⟩
                    refine bif_of (fun ca => ?_) (fun ca => ?_)
                    · have h := h.1 (bne_t ca)
                      exact h
                    · have h := h.2 (bne_f ca)
                      obtain ⟨ar, bi, h⟩ := h
                      try rw [w64 ar bi]
                      obtain ⟨gg, hk, h⟩ := h
                      exact ⟨gg, hk, h⟩
                  · have h := h.2 (Int.not_lt.1 (of_decide_eq_false i4))
                    refine thenW_in fun ab cv => ?_
                    have a0 := (Ext.refl no ae).x_drew cv
                    obtain ⟨cw, b9, h⟩ := h
                    refine ⟨cw, (a0).cell b9 id, ?_⟩
                    obtain ⟨cx, bc, h⟩ := h
                    refine ⟨cx, (a0).cell bc id, ?_⟩
                    obtain ⟨i0, dw, h⟩ := h
                    refine ⟨i0, (a0).cell dw id, ?_⟩
                    obtain ⟨i3, f2, h⟩ := h
                    refine ⟨i3, (a0).cell f2 id, ?_⟩
                    obtain ⟨k6, es, h⟩ := h
                    refine elim_some es ?_
                    have h := h ab a0
                    obtain ⟨hcs, h⟩ := h
                    refine ⟨hcs, thenW_in fun bq c3 => ?_⟩
                    replace h := thenW_out h c3
                    obtain ⟨df, f1, h⟩ := h
                    refine ⟨df, f1, ?_⟩
                    obtain ⟨ll, e6, h⟩ := h
                    refine elim_some e6 ?_
                    obtain ⟨hcs, h⟩ := h
                    refine ⟨hcs, thenW_in fun bt cs => ?_⟩
                    replace h := thenW_out h cs
                    exact h
              · have h := h1'
                have h := h ai (Ext.refl (fun b => b ∈ ([] : List Nat)) ai)
                refine thenW_in fun af j1 => ?_
                have h := h af ai.heap.size ((Ext.refl no ai).x_alloc j1) (Blk.of_new j1) ((Ext.refl no ai)).size (size_lt_alloc j1)
                obtain ⟨bw, c6, b3, ay, b7, h⟩ := h
                refine ⟨bw, c6, b3, ay, b7, ?_⟩
                obtain ⟨h0', h1'⟩ := h
                refine ⟨?_, ?_⟩
                · have h := h0'
                  have h := h af [] (Ext.refl no af) Priv.nil
                  refine h.mono fun fx a5 h => ?_
                  obtain ⟨az, ba, he, hkL, h⟩ := h
                  refine ⟨az, ba, he, ?_⟩
                  have h := h a5 (Ext.refl (fun b => b ∈ ([] : List Nat)) a5)
                  refine thenW_in fun i9 gj => ?_
                  have h := h i9 a5.heap.size ((Ext.refl no a5).x_alloc gj) (Blk.of_new gj) ((Ext.refl no a5)).size (size_lt_alloc gj)
                  obtain ⟨hcs, h⟩ := h
                  refine ⟨hcs, thenW_in fun d7 et => ?_⟩
                  replace h := thenW_out h et
                  obtain ⟨hcs, h⟩ := h
                  refine ⟨hcs, thenW_in fun cc ki => ?_⟩
                  replace h := thenW_out h ki
                  obtain ⟨jr, fc, h⟩ := h
                  refine ⟨jr, fc, ?_⟩
                  obtain ⟨mj, fp, h⟩ := h
                  refine elim_some fp ?_
                  obtain ⟨k1, fq, h⟩ := h
                  refine ⟨k1, fq, ?_⟩
                  refine thenW_in fun ae f5 => ?_
                  have h := h ae cc.heap.size ((Ext.refl no cc).x_alloc f5) (Blk.of_new f5) ((Ext.refl no cc)).size (size_lt_alloc f5)
                  obtain ⟨I1, m1, h0, h⟩ := h
                  refine ⟨I1, m1, h0, fun lb ao k0 hI => ?_⟩
                  have h := h lb ao k0 hI
                  refine bif_of (fun fj => ?_) (fun fj => ?_)
                  · have h := h.1 (of_decide_eq_true fj)
                    obtain ⟨b8, bh, h⟩ := h
                    refine ⟨b8, bh, ?_⟩
                    obtain ⟨gz, g3, g8, d5, h⟩ := h
                    refine ⟨gz, g3, g8, d5, ?_⟩
                    refine thenW_in fun bm f0 => ?_
                    have dg := (Ext.refl no ao).x_drew f0
                    obtain ⟨ga, i2, h⟩ := h
                    refine ⟨ga, (dg).cell i2 id, ?_⟩
                    have h := h bm dg
                    obtain ⟨hen, h⟩ := h
                    refine bif_tt hen ?_
                    refine h.mono fun jk a1 h => ?_
                    obtain ⟨j0, he, h⟩ := h
                    refine ⟨j0, he, ?_⟩
                    obtain ⟨f4, h⟩ := h
                    refine ⟨f4, ?_⟩
                    refine h.mono fun jm bp h => ?_
                    obtain ⟨d3, he, h⟩ := h
                    refine ⟨d3, he, ?_⟩
                    refine bif_of (fun c5 => ?_) (fun c5 => ?_)
                    · have h := h.1 (bne_t c5)
                      exact h
                    · have h := h.2 (bne_f c5)
                      obtain ⟨ar, bi, h⟩ := h
                      try rw [w64 ar bi]
                      obtain ⟨i7, hk, h⟩ := h
                      exact ⟨i7, hk, h⟩
                  · have h := h.2 (Int.not_lt.1 (of_decide_eq_false fj))
                    refine thenW_in fun bn g6 => ?_
                    have a9 := (Ext.refl no ao).x_drew g6
                    obtain ⟨gp, ez, h⟩ := h
                    refine ⟨gp, (a9).cell ez id, ?_⟩
                    obtain ⟨d0, bb, h⟩ := h
                    refine ⟨d0, (a9).cell bb id, ?_⟩
                    obtain ⟨ce, ap, h⟩ := h
                    refine ⟨ce, (a9).cell ap id, ?_⟩
                    obtain ⟨d6, b5, h⟩ := h
                    refine ⟨d6, (a9).cell b5 id, ?_⟩
                    obtain ⟨k5, f9, h⟩ := h
                    refine elim_some f9 ?_
                    have h := h bn a9
                    obtain ⟨hcs, h⟩ := h
                    refine ⟨hcs, thenW_in fun jd gs => ?_⟩
                    replace h := thenW_out h gs
                    obtain ⟨el, db, h⟩ := h
                    refine ⟨el, db, ?_⟩
                    obtain ⟨ly, e9, h⟩ := h
                    refine elim_some e9 ?_
                    obtain ⟨hcs, h⟩ := h
                    refine ⟨hcs, thenW_in fun jh g1 => ?_⟩
                    replace h := thenW_out h g1
                    exact h
                · have h := h1'
                  refine thenW_in fun bz iv => ?_
                  have h := h bz af.heap.size ((Ext.refl no af).x_alloc iv) (Blk.of_new iv) ((Ext.refl no af)).size (size_lt_alloc iv)
                  obtain ⟨it, g2, c2, c8, au, h⟩ := h
                  refine ⟨it, g2, c2, c8, au, ?_⟩
                  have h := h bz [] (Ext.refl no bz) Priv.nil
                  refine h.mono fun ku ex h => ?_
                  obtain ⟨aw, bg, he, hkL, h⟩ := h
                  refine ⟨aw, bg, he, ?_⟩
                  have h := h ex (Ext.refl (fun b => b ∈ ([] : List Nat)) ex)
                  obtain ⟨hcs, h⟩ := h
                  refine ⟨hcs, thenW_in fun lt k4 => ?_⟩
                  replace h := thenW_out h k4
                  obtain ⟨hcs, h⟩ := h
                  refine ⟨hcs, thenW_in fun ah kw => ?_⟩
                  replace h := thenW_out h kw
                  obtain ⟨k7, d2, h⟩ := h
                  refine ⟨k7, d2, ?_⟩
                  obtain ⟨m7, gk, h⟩ := h
                  refine elim_some gk ?_
                  obtain ⟨le, gc, h⟩ := h
                  refine ⟨le, gc, ?_⟩
                  refine thenW_in fun ao ig => ?_
                  have h := h ao ah.heap.size ((Ext.refl no ah).x_alloc ig) (Blk.of_new ig) ((Ext.refl no ah)).size (size_lt_alloc ig)
                  obtain ⟨I1, k2, h0, h⟩ := h
                  refine ⟨I1, k2, h0, fun kt cz ka hI => ?_⟩
                  have h := h kt cz ka hI
                  refine bif_of (fun cp => ?_) (fun cp => ?_)
                  · have h := h.1 (of_decide_eq_true cp)
                    obtain ⟨b8, bh, h⟩ := h
                    refine ⟨b8, bh, ?_⟩
                    obtain ⟨eh, e1, ec, an, h⟩ := h
                    refine ⟨eh, e1, ec, an, ?_⟩
                    refine thenW_in fun a1 gi => ?_
                    have bo := (Ext.refl no cz).x_drew gi
                    obtain ⟨iu, dr, h⟩ := h
                    refine ⟨iu, (bo).cell dr id, ?_⟩
                    have h := h a1 bo
                    obtain ⟨hen, h⟩ := h
                    refine bif_tt hen ?_
                    refine h.mono fun j5 jo h => ?_
                    obtain ⟨gr, he, h⟩ := h
                    refine ⟨gr, he, ?_⟩
                    obtain ⟨e4, h⟩ := h
                    refine ⟨e4, ?_⟩
                    refine h.mono fun ei bj h => ?_
                    obtain ⟨bu, he, h⟩ := h
                    refine ⟨bu, he, ?_⟩
                    refine bif_of (fun cm => ?_) (fun cm => ?_)
                    · have h := h.1 (bne_t cm)
                      exact h
                    · have h := h.2 (bne_f cm)
                      obtain ⟨ar, bi, h⟩ := h
                      try rw [w64 ar bi]
                      obtain ⟨gm, hk, h⟩ := h
                      exact ⟨gm, hk, h⟩
                  · have h := h.2 (Int.not_lt.1 (of_decide_eq_false cp))
                    refine thenW_in fun bq c3 => ?_
                    have a4 := (Ext.refl no cz).x_drew c3
                    obtain ⟨fs, da, h⟩ := h
                    refine ⟨fs, (a4).cell da id, ?_⟩
                    obtain ⟨cr, b1, h⟩ := h
                    refine ⟨cr, (a4).cell b1 id, ?_⟩
                    obtain ⟨ax, a3, h⟩ := h
                    refine ⟨ax, (a4).cell a3 id, ?_⟩
                    obtain ⟨b6, a8, h⟩ := h
                    refine ⟨b6, (a4).cell a8 id, ?_⟩
                    obtain ⟨kz, de, h⟩ := h
                    refine elim_some de ?_
                    have h := h bq a4
                    obtain ⟨hcs, h⟩ := h
                    refine ⟨hcs, thenW_in fun jf i8 => ?_⟩
                    replace h := thenW_out h i8
                    obtain ⟨dk, e8, h⟩ := h
                    refine ⟨dk, e8, ?_⟩
                    obtain ⟨fl, bf, h⟩ := h
                    refine elim_some bf ?_
                    obtain ⟨hcs, h⟩ := h
                    refine ⟨hcs, thenW_in fun eu cg => ?_⟩
                    replace h := thenW_out h cg
                    exact h
              · have h := h2'
                have h := h ai (Ext.refl (fun b => b ∈ ([] : List Nat)) ai)
                refine thenW_in fun af j1 => ?_
                have h := h af ai.heap.size ((Ext.refl no ai).x_alloc j1) (Blk.of_new j1) ((Ext.refl no ai)).size (size_lt_alloc j1)
                obtain ⟨bw, c6, b3, ay, b7, h⟩ := h
                refine ⟨bw, c6, b3, ay, b7, ?_⟩
                obtain ⟨h0', h1'⟩ := h
                refine ⟨?_, ?_⟩
                · have h := h0'
                  have h := h af [] (Ext.refl no af) Priv.nil
                  refine h.mono fun fx a5 h => ?_
                  obtain ⟨az, ba, he, hkL, h⟩ := h
                  refine ⟨az, ba, he, ?_⟩
                  have h := h a5 (Ext.refl (fun b => b ∈ ([] : List Nat)) a5)
                  refine thenW_in fun i9 gj => ?_
                  have h := h i9 a5.heap.size ((Ext.refl no a5).x_alloc gj) (Blk.of_new gj) ((Ext.refl no a5)).size (size_lt_alloc gj)
                  obtain ⟨hcs, h⟩ := h
                  refine ⟨hcs, thenW_in fun d7 et => ?_⟩
                  replace h := thenW_out h et
                  obtain ⟨hcs, h⟩ := h
                  refine ⟨hcs, thenW_in fun cc ki => ?_⟩
                  replace h := thenW_out h ki
                  obtain ⟨jr, fc, h⟩ := h
                  refine ⟨jr, fc, ?_⟩
                  obtain ⟨mj, fp, h⟩ := h
                  refine elim_some fp ?_
                  obtain ⟨k1, fq, h⟩ := h
                  refine ⟨k1, fq, ?_⟩
                  refine thenW_in fun ae f5 => ?_
                  have h := h ae cc.heap.size ((Ext.refl no cc).x_alloc f5) (Blk.of_new f5) ((Ext.refl no cc)).size (size_lt_alloc f5)
                  obtain ⟨I1, m1, h0, h⟩ := h
                  refine ⟨I1, m1, h0, fun lb ao k0 hI => ?_⟩
                  have h := h lb ao k0 hI
                  refine bif_of (fun fj => ?_) (fun fj => ?_)
                  · have h := h.1 (of_decide_eq_true fj)
                    obtain ⟨b8, bh, h⟩ := h
                    refine ⟨b8, bh, ?_⟩
                    obtain ⟨gz, g3, g8, d5, h⟩ := h
                    refine ⟨gz, g3, g8, d5, ?_⟩
                    refine thenW_in fun bm f0 => ?_
                    have dg := (Ext.refl no ao).x_drew f0
                    obtain ⟨ga, i2, h⟩ := h
                    refine ⟨ga, (dg).cell i2 id, ?_⟩
                    have h := h bm dg
                    obtain ⟨hen, h⟩ := h
                    refine bif_tt hen ?_
                    refine h.mono fun jk a1 h => ?_
                    obtain ⟨j0, he, h⟩ := h
                    refine ⟨j0, he, ?_⟩
                    obtain ⟨f4, h⟩ := h
                    refine ⟨f4, ?_⟩
                    refine h.mono fun jm bp h => ?_
                    obtain ⟨d3, he, h⟩ := h
                    refine ⟨d3, he, ?_⟩
                    refine bif_of (fun c5 => ?_) (fun c5 => ?_)
                    · have h := h.1 (bne_t c5)
                      exact h
                    · have h := h.2 (bne_f c5)
                      obtain ⟨ar, bi, h⟩ := h
                      try rw [w64 ar bi]
                      obtain ⟨i7, hk, h⟩ := h
                      exact ⟨i7, hk, h⟩
                  · have h := h.2 (Int.not_lt.1 (of_decide_eq_false fj))
                    refine thenW_in fun bn g6 => ?_
                    have a9 := (Ext.refl no ao).x_drew g6
                    obtain ⟨gp, ez, h⟩ := h
                    refine ⟨gp, (a9).cell ez id, ?_⟩
                    obtain ⟨d0, bb, h⟩ := h
                    refine ⟨d0, (a9).cell bb id, ?_⟩
                    obtain ⟨ce, ap, h⟩ := h
                    refine ⟨ce, (a9).cell ap id, ?_⟩
                    obtain ⟨d6, b5, h⟩ := h
                    refine ⟨d6, (a9).cell b5 id, ?_⟩
                    obtain ⟨k5, f9, h⟩ := h
                    refine elim_some f9 ?_
                    have h := h bn a9
                    obtain ⟨hcs, h⟩ := h
                    refine ⟨hcs, thenW_in fun jd gs => ?_⟩
                    replace h := thenW_out h gs
                    obtain ⟨el, db, h⟩ := h
                    refine ⟨el, db, ?_⟩
                    obtain ⟨ly, e9, h⟩ := h
                    refine elim_some e9 ?_
                    obtain ⟨hcs, h⟩ := h
                    refine ⟨hcs, thenW_in fun jh g1 => ?_⟩
                    replace h := thenW_out h g1
                    exact h
                · have h := h1'
                  refine thenW_in fun bz iv => ?_
                  have h := h bz af.heap.size ((Ext.refl no af).x_alloc iv) (Blk.of_new iv) ((Ext.refl no af)).size (size_lt_alloc iv)
                  obtain ⟨it, g2, c2, c8, au, h⟩ := h
                  refine ⟨it, g2, c2, c8, au, ?_⟩
                  have h := h bz [] (Ext.refl no bz) Priv.nil
                  refine h.mono fun ku ex h => ?_
                  obtain ⟨aw, bg, he, hkL, h⟩ := h
                  refine ⟨aw, bg, he, ?_⟩
                  have h := h ex (Ext.refl (fun b => b ∈ ([] : List Nat)) ex)
                  obtain ⟨hcs, h⟩ := h
                  refine ⟨hcs, thenW_in fun lt k4 => ?_⟩
                  replace h := thenW_out h k4
                  obtain ⟨hcs, h⟩ := h
                  refine ⟨hcs, thenW_in fun ah kw => ?_⟩
                  replace h := thenW_out h kw
                  obtain ⟨k7, d2, h⟩ := h
                  refine ⟨k7, d2, ?_⟩
                  obtain ⟨m7, gk, h⟩ := h
                  refine elim_some gk ?_
                  obtain ⟨le, gc, h⟩ := h
                  refine ⟨le, gc, ?_⟩
                  refine thenW_in fun ao ig => ?_
                  have h := h ao ah.heap.size ((Ext.refl no ah).x_alloc ig) (Blk.of_new ig) ((Ext.refl no ah)).size (size_lt_alloc ig)
                  obtain ⟨I1, k2, h0, h⟩ := h
                  refine ⟨I1, k2, h0, fun kt cz ka hI => ?_⟩
                  have h := h kt cz ka hI
                  refine bif_of (fun cp => ?_) (fun cp => ?_)
                  · have h := h.1 (of_decide_eq_true cp)
                    obtain ⟨b8, bh, h⟩ := h
                    refine ⟨b8, bh, ?_⟩
                    obtain ⟨eh, e1, ec, an, h⟩ := h
                    refine ⟨eh, e1, ec, an, ?_⟩
                    refine thenW_in fun a1 gi => ?_
                    have bo := (Ext.refl no cz).x_drew gi
                    obtain ⟨iu, dr, h⟩ := h
                    refine ⟨iu, (bo).cell dr id, ?_⟩
                    have h := h a1 bo
                    obtain ⟨hen, h⟩ := h
                    refine bif_tt hen ?_
                    refine h.mono fun j5 jo h => ?_
                    obtain ⟨gr, he, h⟩ := h
                    refine ⟨gr, he, ?_⟩
                    obtain ⟨e4, h⟩ := h
                    refine ⟨e4, ?_⟩
                    refine h.mono fun ei bj h => ?_
                    obtain ⟨bu, he, h⟩ := h
                    refine ⟨bu, he, ?_⟩
                    refine bif_of (fun cm => ?_) (fun cm => ?_)
                    · have h := h.1 (bne_t cm)
                      exact h
                    · have h := h.2 (bne_f cm)
                      obtain ⟨ar, bi, h⟩ := h
                      try rw [w64 ar bi]
                      obtain ⟨gm, hk, h⟩ := h
                      exact ⟨gm, hk, h⟩
                  · have h := h.2 (Int.not_lt.1 (of_decide_eq_false cp))
                    refine thenW_in fun bq c3 => ?_
                    have a4 := (Ext.refl no cz).x_drew c3
                    obtain ⟨fs, da, h⟩ := h
                    refine ⟨fs, (a4).cell da id, ?_⟩
                    obtain ⟨cr, b1, h⟩ := h
                    refine ⟨cr, (a4).cell b1 id, ?_⟩
                    obtain ⟨ax, a3, h⟩ := h
                    refine ⟨ax, (a4).cell a3 id, ?_⟩
                    obtain ⟨b6, a8, h⟩ := h
                    refine ⟨b6, (a4).cell a8 id, ?_⟩
                    obtain ⟨kz, de, h⟩ := h
                    refine elim_some de ?_
                    have h := h bq a4
                    obtain ⟨hcs, h⟩ := h
                    refine ⟨hcs, thenW_in fun jf i8 => ?_⟩
                    replace h := thenW_out h i8
                    obtain ⟨dk, e8, h⟩ := h
                    refine ⟨dk, e8, ?_⟩
                    obtain ⟨fl, bf, h⟩ := h
                    refine elim_some bf ?_
                    obtain ⟨hcs, h⟩ := h
                    refine ⟨hcs, thenW_in fun eu cg => ?_⟩
                    replace h := thenW_out h cg
                    exact h
            · have h := h1'
              refine thenW_in fun ag ir => ?_
              have h := h ag ip.heap.size (aj.x_alloc ir) (Blk.of_new ir) (aj).size (size_lt_alloc ir)
              obtain ⟨fo, i6, g9, e0, dc, er, dp, h⟩ := h
              refine ⟨fo, i6, g9, e0, dc, er, dp, ?_⟩
              obtain ⟨h0', h1'⟩ := h
              refine ⟨?_, ?_⟩
              · have h := h0'
                have h := h ag [] (Ext.refl no ag) Priv.nil
                refine h.mono fun l9 aa h => ?_
                obtain ⟨ci, he, hkL, h⟩ := h
                refine ⟨ci, he, ?_⟩
                obtain ⟨b3, ay, b7, cy, gh, h⟩ := h
                refine ⟨b3, ay, b7, cy, gh, ?_⟩
                obtain ⟨h0', h1'⟩ := h
                refine ⟨?_, ?_⟩
                · have h := h0'
                  have h := h aa [] (Ext.refl (fun b => b ∈ ([] : List Nat)) aa) PrivJ.nil
                  refine h.mono fun lx b0 h => ?_
                  obtain ⟨al, be, he, hkL, h⟩ := h
                  refine ⟨al, be, he, ?_⟩
                  have h := h b0 (Ext.refl (fun b => b ∈ ([] : List Nat)) b0)
                  refine thenW_in fun d7 et => ?_
                  have h := h d7 b0.heap.size ((Ext.refl no b0).x_alloc et) (Blk.of_new et) ((Ext.refl no b0)).size (size_lt_alloc et)
                  obtain ⟨hcs, h⟩ := h
                  refine ⟨hcs, thenW_in fun eo dq => ?_⟩
                  replace h := thenW_out h dq
                  obtain ⟨hcs, h⟩ := h
                  refine ⟨hcs, thenW_in fun cn l3 => ?_⟩
                  replace h := thenW_out h l3
                  obtain ⟨m4, fu, h⟩ := h
                  refine ⟨m4, fu, ?_⟩
                  obtain ⟨m8, io, h⟩ := h
                  refine elim_some io ?_
                  obtain ⟨lq, d2, h⟩ := h
                  refine ⟨lq, d2, ?_⟩
                  refine thenW_in fun dx ew => ?_
                  have h := h dx cn.heap.size ((Ext.refl no cn).x_alloc ew) (Blk.of_new ew) ((Ext.refl no cn)).size (size_lt_alloc ew)
                  obtain ⟨I1, lz, h0, h⟩ := h
                  refine ⟨I1, lz, h0, fun kg bd l2 hI => ?_⟩
                  have h := h kg bd l2 hI
                  refine bif_of (fun iz => ?_) (fun iz => ?_)
                  · have h := h.1 (of_decide_eq_true iz)
                    obtain ⟨b8, bh, h⟩ := h
                    refine ⟨b8, bh, ?_⟩
                    obtain ⟨ii, gb, gu, fd, h⟩ := h
                    refine ⟨ii, gb, gu, fd, ?_⟩
                    refine thenW_in fun ek ik => ?_
                    have bs := (Ext.refl no bd).x_drew ik
                    obtain ⟨j2, an, h⟩ := h
                    refine ⟨j2, (bs).cell an id, ?_⟩
                    have h := h ek bs
                    obtain ⟨hen, h⟩ := h
                    refine bif_tt hen ?_
                    refine h.mono fun jl ab h => ?_
                    obtain ⟨fv, he, h⟩ := h
                    refine ⟨fv, he, ?_⟩
                    obtain ⟨f6, h⟩ := h
                    refine ⟨f6, ?_⟩
                    refine h.mono fun j7 jp h => ?_
                    obtain ⟨cd, he, h⟩ := h
                    refine ⟨cd, he, ?_⟩
                    refine bif_of (fun ch => ?_) (fun ch => ?_)
                    · have h := h.1 (bne_t ch)
                      exact h
                    · have h := h.2 (bne_f ch)
                      obtain ⟨ar, bi, h⟩ := h
                      try rw [w64 ar bi]
                      obtain ⟨gt, hk, h⟩ := h
                      exact ⟨gt, hk, h⟩
                  · have h := h.2 (Int.not_lt.1 (of_decide_eq_false iz))
                    refine thenW_in fun bj fi => ?_
                    have a2 := (Ext.refl no bd).x_drew fi
                    obtain ⟨d0, bb, h⟩ := h
                    refine ⟨d0, (a2).cell bb id, ?_⟩
                    obtain ⟨ce, ap, h⟩ := h
                    refine ⟨ce, (a2).cell ap id, ?_⟩
                    obtain ⟨d6, b5, h⟩ := h
                    refine ⟨d6, (a2).cell b5 id, ?_⟩
                    obtain ⟨i1, eg, h⟩ := h
                    refine ⟨i1, (a2).cell eg id, ?_⟩
                    obtain ⟨km, e2, h⟩ := h
                    refine elim_some e2 ?_
                    have h := h bj a2
                    obtain ⟨hcs, h⟩ := h
                    refine ⟨hcs, thenW_in fun jj gl => ?_⟩
                    replace h := thenW_out h gl
                    obtain ⟨dt, dy, h⟩ := h
                    refine ⟨dt, dy, ?_⟩
                    obtain ⟨l0, dj, h⟩ := h
                    refine elim_some dj ?_
                    obtain ⟨hcs, h⟩ := h
                    refine ⟨hcs, thenW_in fun je g0 => ?_⟩
                    replace h := thenW_out h g0
                    exact h
                · have h := h1'
                  have h := h aa (Ext.refl (fun b => b ∈ ([] : List Nat)) aa)
                  refine thenW_in fun cq fz => ?_
                  have h := h cq aa.heap.size ((Ext.refl no aa).x_alloc fz) (Blk.of_new fz) ((Ext.refl no aa)).size (size_lt_alloc fz)
                  obtain ⟨c2, c8, au, co, bv, h⟩ := h
                  refine ⟨c2, c8, au, co, bv, ?_⟩
                  have h := h cq [] (Ext.refl no cq) Priv.nil
                  refine h.mono fun ko ah h => ?_
                  obtain ⟨av, ak, he, hkL, h⟩ := h
                  refine ⟨av, ak, he, ?_⟩
                  have h := h ah (Ext.refl (fun b => b ∈ ([] : List Nat)) ah)
                  obtain ⟨hcs, h⟩ := h
                  refine ⟨hcs, thenW_in fun ae f5 => ?_⟩
                  replace h := thenW_out h f5
                  obtain ⟨hcs, h⟩ := h
                  refine ⟨hcs, thenW_in fun ad l6 => ?_⟩
                  replace h := thenW_out h l6
                  obtain ⟨lr, c1, h⟩ := h
                  refine ⟨lr, c1, ?_⟩
                  obtain ⟨mh, gw, h⟩ := h
                  refine elim_some gw ?_
                  obtain ⟨kr, d1, h⟩ := h
                  refine ⟨kr, d1, ?_⟩
                  refine thenW_in fun bd ij => ?_
                  have h := h bd ad.heap.size ((Ext.refl no ad).x_alloc ij) (Blk.of_new ij) ((Ext.refl no ad)).size (size_lt_alloc ij)
                  obtain ⟨I1, lf, h0, h⟩ := h
                  refine ⟨I1, lf, h0, fun gd b4 ld hI => ?_⟩
                  have h := h gd b4 ld hI
                  refine bif_of (fun d4 => ?_) (fun d4 => ?_)
                  · have h := h.1 (of_decide_eq_true d4)
                    obtain ⟨b8, bh, h⟩ := h
                    refine ⟨b8, bh, ?_⟩
                    obtain ⟨f8, ep, en, em, h⟩ := h
                    refine ⟨f8, ep, en, em, ?_⟩
                    refine thenW_in fun ab cv => ?_
                    have a0 := (Ext.refl no b4).x_drew cv
                    obtain ⟨cw, b9, h⟩ := h
                    refine ⟨cw, (a0).cell b9 id, ?_⟩
                    have h := h ab a0
                    obtain ⟨hen, h⟩ := h
                    refine bif_tt hen ?_
                    refine h.mono fun j4 bn h => ?_
                    obtain ⟨gy, he, h⟩ := h
                    refine ⟨gy, he, ?_⟩
                    obtain ⟨ds, h⟩ := h
                    refine ⟨ds, ?_⟩
                    refine h.mono fun ja jg h => ?_
                    obtain ⟨cb, he, h⟩ := h
                    refine ⟨cb, he, ?_⟩
                    refine bif_of (fun ct => ?_) (fun ct => ?_)
                    · have h := h.1 (bne_t ct)
                      exact h
                    · have h := h.2 (bne_f ct)
                      obtain ⟨ar, bi, h⟩ := h
                      try rw [w64 ar bi]
                      obtain ⟨fe, hk, h⟩ := h
                      exact ⟨fe, hk, h⟩
                  · have h := h.2 (Int.not_lt.1 (of_decide_eq_false d4))
                    refine thenW_in fun dh gq => ?_
                    have a7 := (Ext.refl no b4).x_drew gq
                    obtain ⟨cr, b1, h⟩ := h
                    refine ⟨cr, (a7).cell b1 id, ?_⟩
                    obtain ⟨ax, a3, h⟩ := h
                    refine ⟨ax, (a7).cell a3 id, ?_⟩
                    obtain ⟨b6, a8, h⟩ := h
                    refine ⟨b6, (a7).cell a8 id, ?_⟩
                    obtain ⟨c4, aq, h⟩ := h
                    refine ⟨c4, (a7).cell aq id, ?_⟩
                    obtain ⟨m2, ed, h⟩ := h
                    refine elim_some ed ?_
                    have h := h dh a7
                    obtain ⟨hcs, h⟩ := h
                    refine ⟨hcs, thenW_in fun jc ie => ?_⟩
                    replace h := thenW_out h ie
                    obtain ⟨dm, ej, h⟩ := h
                    refine ⟨dm, ej, ?_⟩
                    obtain ⟨js, d9, h⟩ := h
                    refine elim_some d9 ?_
                    obtain ⟨hcs, h⟩ := h
                    refine ⟨hcs, thenW_in fun j8 fa => ?_⟩
                    replace h := thenW_out h fa
                    exact h
              · have h := h1'
                refine thenW_in fun c7 fh => ?_
                have h := h c7 ag.heap.size ((Ext.refl no ag).x_alloc fh) (Blk.of_new fh) ((Ext.refl no ag)).size (size_lt_alloc fh)
                obtain ⟨ia, bw, c6, b3, ay, b7, cy, h⟩ := h
                refine ⟨ia, bw, c6, b3, ay, b7, cy, ?_⟩
                have h := h c7 [] (Ext.refl no c7) Priv.nil
                refine h.mono fun fx a5 h => ?_
                obtain ⟨cj, he, hkL, h⟩ := h
                refine ⟨cj, he, ?_⟩
                obtain ⟨au, co, bv, ib, ic, h⟩ := h
                refine ⟨au, co, bv, ib, ic, ?_⟩
                have h := h a5 [] (Ext.refl (fun b => b ∈ ([] : List Nat)) a5) PrivJ.nil
                refine h.mono fun k8 ad h => ?_
                obtain ⟨b2, am, he, hkL, h⟩ := h
                refine ⟨b2, am, he, ?_⟩
                have h := h ad (Ext.refl (fun b => b ∈ ([] : List Nat)) ad)
                obtain ⟨hcs, h⟩ := h
                refine ⟨hcs, thenW_in fun dx ew => ?_⟩
                replace h := thenW_out h ew
                obtain ⟨hcs, h⟩ := h
                refine ⟨hcs, thenW_in fun cl lg => ?_⟩
                replace h := thenW_out h lg
                obtain ⟨kn, i5, h⟩ := h
                refine ⟨kn, i5, ?_⟩
                obtain ⟨mk, il, h⟩ := h
                refine elim_some il ?_
                obtain ⟨ke, d5, h⟩ := h
                refine ⟨ke, d5, ?_⟩
                refine thenW_in fun bm f0 => ?_
                have h := h bm cl.heap.size ((Ext.refl no cl).x_alloc f0) (Blk.of_new f0) ((Ext.refl no cl)).size (size_lt_alloc f0)
                obtain ⟨I1, fm, h0, h⟩ := h
                refine ⟨I1, fm, h0, fun gv a1 g4 hI => ?_⟩
                have h := h gv a1 g4 hI
                refine bif_of (fun cf => ?_) (fun cf => ?_)
                · have h := h.1 (of_decide_eq_true cf)
                  obtain ⟨b8, bh, h⟩ := h
                  refine ⟨b8, bh, ?_⟩
                  obtain ⟨f3, e7, dv, f7, h⟩ := h
                  refine ⟨f3, e7, dv, f7, ?_⟩
                  refine thenW_in fun bp gn => ?_
                  have br := (Ext.refl no a1).x_drew gn
                  obtain ⟨cx, bc, h⟩ := h
                  refine ⟨cx, (br).cell bc id, ?_⟩
                  have h := h bp br
                  obtain ⟨hen, h⟩ := h
                  refine bif_tt hen ?_
                  refine h.mono fun ei bj h => ?_
                  obtain ⟨ft, he, h⟩ := h
                  refine ⟨ft, he, ?_⟩
                  obtain ⟨ev, h⟩ := h
                  refine ⟨ev, ?_⟩
                  refine h.mono fun j6 j9 h => ?_
                  obtain ⟨cu, he, h⟩ := h
                  refine ⟨cu, he, ?_⟩
                  refine bif_of (fun ck => ?_) (fun ck => ?_)
                  · have h := h.1 (bne_t ck)
                    exact h
                  · have h := h.2 (bne_f ck)
                    obtain ⟨ar, bi, h⟩ := h
                    try rw [w64 ar bi]
                    obtain ⟨ih, hk, h⟩ := h
                    exact ⟨ih, hk, h⟩
                · have h := h.2 (Int.not_lt.1 (of_decide_eq_false cf))
                  refine thenW_in fun bt cs => ?_
                  have a6 := (Ext.refl no a1).x_drew cs
                  obtain ⟨ax, a3, h⟩ := h
                  refine ⟨ax, (a6).cell a3 id, ?_⟩
                  obtain ⟨b6, a8, h⟩ := h
                  refine ⟨b6, (a6).cell a8 id, ?_⟩
                  obtain ⟨c4, aq, h⟩ := h
                  refine ⟨c4, (a6).cell aq id, ?_⟩
                  obtain ⟨fw, dd, h⟩ := h
                  refine ⟨fw, (a6).cell dd id, ?_⟩
                  obtain ⟨fl, bf, h⟩ := h
                  refine elim_some bf ?_
                  have h := h bt a6
                  obtain ⟨hcs, h⟩ := h
                  refine ⟨hcs, thenW_in fun eu cg => ?_⟩
                  replace h := thenW_out h cg
                  obtain ⟨du, ey, h⟩ := h
                  refine ⟨du, ey, ?_⟩
                  obtain ⟨kl, dn, h⟩ := h
                  refine elim_some dn ?_
                  obtain ⟨hcs, h⟩ := h
                  refine ⟨hcs, thenW_in fun ji fb => ?_⟩
                  replace h := thenW_out h fb
                  exact h
            · have h := h2'
              refine thenW_in fun ag ir => ?_
              have h := h ag ip.heap.size (aj.x_alloc ir) (Blk.of_new ir) (aj).size (size_lt_alloc ir)
              obtain ⟨fo, i6, g9, e0, dc, er, dp, h⟩ := h
              refine ⟨fo, i6, g9, e0, dc, er, dp, ?_⟩
              obtain ⟨h0', h1'⟩ := h
              refine ⟨?_, ?_⟩
              · have h := h0'
                have h := h ag [] (Ext.refl no ag) Priv.nil
                refine h.mono fun l9 aa h => ?_
                obtain ⟨ci, he, hkL, h⟩ := h
                refine ⟨ci, he, ?_⟩
                obtain ⟨b3, ay, b7, cy, gh, h⟩ := h
                refine ⟨b3, ay, b7, cy, gh, ?_⟩
                obtain ⟨h0', h1'⟩ := h
                refine ⟨?_, ?_⟩
                · have h := h0'
                  have h := h aa [] (Ext.refl (fun b => b ∈ ([] : List Nat)) aa) PrivJ.nil
                  refine h.mono fun lx b0 h => ?_
                  obtain ⟨al, be, he, hkL, h⟩ := h
                  refine ⟨al, be, he, ?_⟩
                  have h := h b0 (Ext.refl (fun b => b ∈ ([] : List Nat)) b0)
                  refine thenW_in fun d7 et => ?_
                  have h := h d7 b0.heap.size ((Ext.refl no b0).x_alloc et) (Blk.of_new et) ((Ext.refl no b0)).size (size_lt_alloc et)
                  obtain ⟨hcs, h⟩ := h
                  refine ⟨hcs, thenW_in fun eo dq => ?_⟩
                  replace h := thenW_out h dq
                  obtain ⟨hcs, h⟩ := h
                  refine ⟨hcs, thenW_in fun cn l3 => ?_⟩
                  replace h := thenW_out h l3
                  obtain ⟨m4, fu, h⟩ := h
                  refine ⟨m4, fu, ?_⟩
                  obtain ⟨m8, io, h⟩ := h
                  refine elim_some io ?_
                  obtain ⟨lq, d2, h⟩ := h
                  refine ⟨lq, d2, ?_⟩
                  refine thenW_in fun dx ew => ?_
                  have h := h dx cn.heap.size ((Ext.refl no cn).x_alloc ew) (Blk.of_new ew) ((Ext.refl no cn)).size (size_lt_alloc ew)
                  obtain ⟨I1, lz, h0, h⟩ := h
                  refine ⟨I1, lz, h0, fun kg bd l2 hI => ?_⟩
                  have h := h kg bd l2 hI
                  refine bif_of (fun iz => ?_) (fun iz => ?_)
                  · have h := h.1 (of_decide_eq_true iz)
                    obtain ⟨b8, bh, h⟩ := h
                    refine ⟨b8, bh, ?_⟩
                    obtain ⟨ii, gb, gu, fd, h⟩ := h
                    refine ⟨ii, gb, gu, fd, ?_⟩
                    refine thenW_in fun ek ik => ?_
                    have bs := (Ext.refl no bd).x_drew ik
                    obtain ⟨j2, an, h⟩ := h
                    refine ⟨j2, (bs).cell an id, ?_⟩
                    have h := h ek bs
                    obtain ⟨hen, h⟩ := h
                    refine bif_tt hen ?_
                    refine h.mono fun jl ab h => ?_
                    obtain ⟨fv, he, h⟩ := h
                    refine ⟨fv, he, ?_⟩
                    obtain ⟨f6, h⟩ := h
                    refine ⟨f6, ?_⟩
                    refine h.mono fun j7 jp h => ?_
                    obtain ⟨cd, he, h⟩ := h
                    refine ⟨cd, he, ?_⟩
                    refine bif_of (fun ch => ?_) (fun ch => ?_)
                    · have h := h.1 (bne_t ch)
                      exact h
                    · have h := h.2 (bne_f ch)
                      obtain ⟨ar, bi, h⟩ := h
                      try rw [w64 ar bi]
                      obtain ⟨gt, hk, h⟩ := h
                      exact ⟨gt, hk, h⟩
                  · have h := h.2 (Int.not_lt.1 (of_decide_eq_false iz))
                    refine thenW_in fun bj fi => ?_
                    have a2 := (Ext.refl no bd).x_drew fi
                    obtain ⟨d0, bb, h⟩ := h
                    refine ⟨d0, (a2).cell bb id, ?_⟩
                    obtain ⟨ce, ap, h⟩ := h
                    refine ⟨ce, (a2).cell ap id, ?_⟩
                    obtain ⟨d6, b5, h⟩ := h
                    refine ⟨d6, (a2).cell b5 id, ?_⟩
                    obtain ⟨i1, eg, h⟩ := h
                    refine ⟨i1, (a2).cell eg id, ?_⟩
                    obtain ⟨km, e2, h⟩ := h
                    refine elim_some e2 ?_
                    have h := h bj a2
                    obtain ⟨hcs, h⟩ := h
                    refine ⟨hcs, thenW_in fun jj gl => ?_⟩
                    replace h := thenW_out h gl
                    obtain ⟨dt, dy, h⟩ := h
                    refine ⟨dt, dy, ?_⟩
                    obtain ⟨l0, dj, h⟩ := h
                    refine elim_some dj ?_
                    obtain ⟨hcs, h⟩ := h
                    refine ⟨hcs, thenW_in fun je g0 => ?_⟩
                    replace h := thenW_out h g0
                    exact h
                · have h := h1'
                  have h := h aa (Ext.refl (fun b => b ∈ ([] : List Nat)) aa)
                  refine thenW_in fun cq fz => ?_
                  have h := h cq aa.heap.size ((Ext.refl no aa).x_alloc fz) (Blk.of_new fz) ((Ext.refl no aa)).size (size_lt_alloc fz)
                  obtain ⟨c2, c8, au, co, bv, h⟩ := h
                  refine ⟨c2, c8, au, co, bv, ?_⟩
                  have h := h cq [] (Ext.refl no cq) Priv.nil
                  refine h.mono fun ko ah h => ?_
                  obtain ⟨av, ak, he, hkL, h⟩ := h
                  refine ⟨av, ak, he, ?_⟩
                  have h := h ah (Ext.refl (fun b => b ∈ ([] : List Nat)) ah)
                  obtain ⟨hcs, h⟩ := h
                  refine ⟨hcs, thenW_in fun ae f5 => ?_⟩
                  replace h := thenW_out h f5
                  obtain ⟨hcs, h⟩ := h
                  refine ⟨hcs, thenW_in fun ad l6 => ?_⟩
                  replace h := thenW_out h l6
                  obtain ⟨lr, c1, h⟩ := h
                  refine ⟨lr, c1, ?_⟩
                  obtain ⟨mh, gw, h⟩ := h
                  refine elim_some gw ?_
                  obtain ⟨kr, d1, h⟩ := h
                  refine ⟨kr, d1, ?_⟩
                  refine thenW_in fun bd ij => ?_
                  have h := h bd ad.heap.size ((Ext.refl no ad).x_alloc ij) (Blk.of_new ij) ((Ext.refl no ad)).size (size_lt_alloc ij)
                  obtain ⟨I1, lf, h0, h⟩ := h
                  refine ⟨I1, lf, h0, fun gd b4 ld hI => ?_⟩
                  have h := h gd b4 ld hI
                  refine bif_of (fun d4 => ?_) (fun d4 => ?_)
                  · have h := h.1 (of_decide_eq_true d4)
                    obtain ⟨b8, bh, h⟩ := h
                    refine ⟨b8, bh, ?_⟩
                    obtain ⟨f8, ep, en, em, h⟩ := h
                    refine ⟨f8, ep, en, em, ?_⟩
                    refine thenW_in fun ab cv => ?_
                    have a0 := (Ext.refl no b4).x_drew cv
                    obtain ⟨cw, b9, h⟩ := h
                    refine ⟨cw, (a0).cell b9 id, ?_⟩
                    have h := h ab a0
                    obtain ⟨hen, h⟩ := h
                    refine bif_tt hen ?_
                    refine h.mono fun j4 bn h => ?_
                    obtain ⟨gy, he, h⟩ := h
                    refine ⟨gy, he, ?_⟩
                    obtain ⟨ds, h⟩ := h
                    refine ⟨ds, ?_⟩
                    refine h.mono fun ja jg h => ?_
                    obtain ⟨cb, he, h⟩ := h
                    refine ⟨cb, he, ?_⟩
                    refine bif_of (fun ct => ?_) (fun ct => ?_)
                    · have h := h.1 (bne_t ct)
                      exact h
                    · have h := h.2 (bne_f ct)
                      obtain ⟨ar, bi, h⟩ := h
                      try rw [w64 ar bi]
                      obtain ⟨fe, hk, h⟩ := h
                      exact ⟨fe, hk, h⟩
                  · have h := h.2 (Int.not_lt.1 (of_decide_eq_false d4))
                    refine thenW_in fun dh gq => ?_
                    have a7 := (Ext.refl no b4).x_drew gq
                    obtain ⟨cr, b1, h⟩ := h
                    refine ⟨cr, (a7).cell b1 id, ?_⟩
                    obtain ⟨ax, a3, h⟩ := h
                    refine ⟨ax, (a7).cell a3 id, ?_⟩
                    obtain ⟨b6, a8, h⟩ := h
                    refine ⟨b6, (a7).cell a8 id, ?_⟩
                    obtain ⟨c4, aq, h⟩ := h
                    refine ⟨c4, (a7).cell aq id, ?_⟩
                    obtain ⟨m2, ed, h⟩ := h
                    refine elim_some ed ?_
                    have h := h dh a7
                    obtain ⟨hcs, h⟩ := h
                    refine ⟨hcs, thenW_in fun jc ie => ?_⟩
                    replace h := thenW_out h ie
                    obtain ⟨dm, ej, h⟩ := h
                    refine ⟨dm, ej, ?_⟩
                    obtain ⟨js, d9, h⟩ := h
                    refine elim_some d9 ?_
                    obtain ⟨hcs, h⟩ := h
                    refine ⟨hcs, thenW_in fun j8 fa => ?_⟩
                    replace h := thenW_out h fa
                    exact h
              · have h := h1'
                refine thenW_in fun c7 fh => ?_
                have h := h c7 ag.heap.size ((Ext.refl no ag).x_alloc fh) (Blk.of_new fh) ((Ext.refl no ag)).size (size_lt_alloc fh)
                obtain ⟨ia, bw, c6, b3, ay, b7, cy, h⟩ := h
                refine ⟨ia, bw, c6, b3, ay, b7, cy, ?_⟩
                have h := h c7 [] (Ext.refl no c7) Priv.nil
                refine h.mono fun fx a5 h => ?_
                obtain ⟨cj, he, hkL, h⟩ := h
                refine ⟨cj, he, ?_⟩
                obtain ⟨au, co, bv, ib, ic, h⟩ := h
                refine ⟨au, co, bv, ib, ic, ?_⟩
                have h := h a5 [] (Ext.refl (fun b => b ∈ ([] : List Nat)) a5) PrivJ.nil
                refine h.mono fun k8 ad h => ?_
                obtain ⟨b2, am, he, hkL, h⟩ := h
                refine ⟨b2, am, he, ?_⟩
                have h := h ad (Ext.refl (fun b => b ∈ ([] : List Nat)) ad)
                obtain ⟨hcs, h⟩ := h
                refine ⟨hcs, thenW_in fun dx ew => ?_⟩
                replace h := thenW_out h ew
                obtain ⟨hcs, h⟩ := h
                refine ⟨hcs, thenW_in fun cl lg => ?_⟩
                replace h := thenW_out h lg
                obtain ⟨kn, i5, h⟩ := h
                refine ⟨kn, i5, ?_⟩
                obtain ⟨mk, il, h⟩ := h
                refine elim_some il ?_
                obtain ⟨ke, d5, h⟩ := h
                refine ⟨ke, d5, ?_⟩
                refine thenW_in fun bm f0 => ?_
                have h := h bm cl.heap.size ((Ext.refl no cl).x_alloc f0) (Blk.of_new f0) ((Ext.refl no cl)).size (size_lt_alloc f0)
                obtain ⟨I1, fm, h0, h⟩ := h
                refine ⟨I1, fm, h0, fun gv a1 g4 hI => ?_⟩
                have h := h gv a1 g4 hI
                refine bif_of (fun cf => ?_) (fun cf => ?_)
                · have h := h.1 (of_decide_eq_true cf)
                  obtain ⟨b8, bh, h⟩ := h
                  refine ⟨b8, bh, ?_⟩
                  obtain ⟨f3, e7, dv, f7, h⟩ := h
                  refine ⟨f3, e7, dv, f7, ?_⟩
                  refine thenW_in fun bp gn => ?_
                  have br := (Ext.refl no a1).x_drew gn
                  obtain ⟨cx, bc, h⟩ := h
                  refine ⟨cx, (br).cell bc id, ?_⟩
                  have h := h bp br
                  obtain ⟨hen, h⟩ := h
                  refine bif_tt hen ?_
                  refine h.mono fun ei bj h => ?_
                  obtain ⟨ft, he, h⟩ := h
                  refine ⟨ft, he, ?_⟩
                  obtain ⟨ev, h⟩ := h
                  refine ⟨ev, ?_⟩
                  refine h.mono fun j6 j9 h => ?_
                  obtain ⟨cu, he, h⟩ := h
                  refine ⟨cu, he, ?_⟩
                  refine bif_of (fun ck => ?_) (fun ck => ?_)
                  · have h := h.1 (bne_t ck)
                    exact h
                  · have h := h.2 (bne_f ck)
                    obtain ⟨ar, bi, h⟩ := h
                    try rw [w64 ar bi]
                    obtain ⟨ih, hk, h⟩ := h
                    exact ⟨ih, hk, h⟩
                · have h := h.2 (Int.not_lt.1 (of_decide_eq_false cf))
                  refine thenW_in fun bt cs => ?_
                  have a6 := (Ext.refl no a1).x_drew cs
                  obtain ⟨ax, a3, h⟩ := h
                  refine ⟨ax, (a6).cell a3 id, ?_⟩
                  obtain ⟨b6, a8, h⟩ := h
                  refine ⟨b6, (a6).cell a8 id, ?_⟩
                  obtain ⟨c4, aq, h⟩ := h
                  refine ⟨c4, (a6).cell aq id, ?_⟩
                  obtain ⟨fw, dd, h⟩ := h
                  refine ⟨fw, (a6).cell dd id, ?_⟩
                  obtain ⟨fl, bf, h⟩ := h
                  refine elim_some bf ?_
                  have h := h bt a6
                  obtain ⟨hcs, h⟩ := h
                  refine ⟨hcs, thenW_in fun eu cg => ?_⟩
                  replace h := thenW_out h cg
                  obtain ⟨du, ey, h⟩ := h
                  refine ⟨du, ey, ?_⟩
                  obtain ⟨kl, dn, h⟩ := h
                  refine elim_some dn ?_
                  obtain ⟨hcs, h⟩ := h
                  refine ⟨hcs, thenW_in fun ji fb => ?_⟩
                  replace h := thenW_out h fb
                  exact h

theorem snapshot_Store_Compact.go (s1 : Option Addr) (a1 : Option Addr) (a0 : Nat) (a2 : Nat) {R : Value → World → Prop} {w : World} (h : snapshot_Store_Compact.N s1 a1 a0 a2 R w) : Calls Try.prog 10 #[.pointer s1, .slice a1 a0 a2] w fun e w' => ∃ v, e = .returned v ∧ R v w' := snapshot_Store_Compact.ok s1 a1 a0 a2 (snapshot_Store_Compact.up s1 a1 a0 a2 h)
theorem snapshot_Store_Compact.run (s1 : Option Addr) (a1 : Option Addr) (a0 : Nat) (a2 : Nat) {V : Value} {Q : World → Prop} {w : World} (h : snapshot_Store_Compact.N s1 a1 a0 a2 (fun v w' => v = V ∧ Q w') w) : Calls Try.prog 10 #[.pointer s1, .slice a1 a0 a2] w (Ret V Q) := (snapshot_Store_Compact.go s1 a1 a0 a2 h).mono fun e w' ⟨v, he, hv, hq⟩ => ⟨by rw [he, hv], hq⟩

/-- (*snapshot.Store).Append -/
def snapshot_Store_Append.M (s1 : Option Addr) (al : Option Addr) (ad : Nat) (ak : Nat) (R : Value → World → Prop) (w : World) : Prop :=
 bif Option.isNone s1 then (
 R (.int .i64 23) w) else (
 s1.elim False fun a3 =>
 ∃ (a5 : Bool), w.cell? (a3.add 4) = some (.bool a5) ∧
 bif a5 then (
 Calls Try.prog 28 #[.int .i64 (ad : Int)] w fun an ah => ∃ (a2 : Int), an = .returned (.int .i64 a2) ∧
 bif decide (a2 > 0) then (
 R (.int .i64 19) ah) else (
 s1.elim False fun a8 =>
 ∃ (a9 : Option Addr), ah.cell? (a8.add 3) = some (.pointer a9) ∧
 Calls Try.prog 32 #[.pointer a9, .slice al ad ak] ah fun ac ab => ∃ (a1 : Int), ac = .returned (.int .i64 a1) ∧
 Calls Try.prog 38 #[.pointer s1, .int .i64 a1] ab fun ae ag => ∃ (a4 : Int), ae = .returned (.int .i64 a4) ∧
 R (.int .i64 a4) ag)) else (
 s1.elim False fun am =>
 ∃ (a6 : Option Addr), w.cell? (am.add 3) = some (.pointer a6) ∧
 Calls Try.prog 32 #[.pointer a6, .slice al ad ak] w fun af ai => ∃ (a0 : Int), af = .returned (.int .i64 a0) ∧
 Calls Try.prog 38 #[.pointer s1, .int .i64 a0] ai fun aa aj => ∃ (a7 : Int), aa = .returned (.int .i64 a7) ∧
 R (.int .i64 a7) aj))

theorem snapshot_Store_Append.eq (s1 : Option Addr) (b2a : Option Addr) (b2n : Nat) (b2c : Nat) (R : Value → World → Prop) (w : World) : mfunc Try.prog [] 11 [.pointer s1, .slice b2a b2n b2c] R w = snapshot_Store_Append.M s1 b2a b2n b2c R w := by kernel_rfl
theorem snapshot_Store_Append.ok (s1 : Option Addr) (a1 : Option Addr) (a2 : Nat) (a0 : Nat) {R : Value → World → Prop} {w : World} (h : snapshot_Store_Append.M s1 a1 a2 a0 R w) : Calls Try.prog 11 #[.pointer s1, .slice a1 a2 a0] w fun e w' => ∃ v, e = .returned v ∧ R v w' :=
  mfunc_ok follows (H := []) (args := [.pointer s1, .slice a1 a2 a0]) (by rw [snapshot_Store_Append.eq]; exact h)

def snapshot_Store_Append.N (s1 : Option Addr) (aj : Option Addr) (a9 : Nat) (ai : Nat) (R : Value → World → Prop) (w : World) : Prop :=
 (s1 = none →
 R (.int .i64 23) w) ∧
 (s1 ≠ none →
 ∃ a4 : Addr, s1 = some a4 ∧
 ∃ (a2 : Bool), w.cell? (a4.add 4) = some (.bool a2) ∧
 (a2 = true →
 ((journal_Parts.F (a9 : Int)) > 0 →
 ∀ (a8 : World), Ext no w a8 →
 R (.int .i64 19) a8) ∧
 ((journal_Parts.F (a9 : Int)) ≤ 0 →
 ∃ (a5 : Option Addr), w.cell? (a4.add 3) = some (.pointer a5) ∧
 ∀ (a8 : World), Ext no w a8 →
 Calls Try.prog 32 #[.pointer a5, .slice aj a9 ai] a8 fun aa ad => ∃ (a0 : Int), aa = .returned (.int .i64 a0) ∧
 Calls Try.prog 38 #[.pointer s1, .int .i64 a0] ad fun ac ab => ∃ (a7 : Int), ac = .returned (.int .i64 a7) ∧
 R (.int .i64 a7) ab)) ∧
 (a2 = false →
 ∃ (a3 : Option Addr), w.cell? (a4.add 3) = some (.pointer a3) ∧
 Calls Try.prog 32 #[.pointer a3, .slice aj a9 ai] w fun af ah => ∃ (a1 : Int), af = .returned (.int .i64 a1) ∧
 Calls Try.prog 38 #[.pointer s1, .int .i64 a1] ah fun ae ag => ∃ (a6 : Int), ae = .returned (.int .i64 a6) ∧
 R (.int .i64 a6) ag))

theorem snapshot_Store_Append.up (s1 : Option Addr) (ae : Option Addr) (a8 : Nat) (ad : Nat) {R : Value → World → Prop} {w : World} (h : snapshot_Store_Append.N s1 ae a8 ad R w) : snapshot_Store_Append.M s1 ae a8 ad R w := by
  unfold snapshot_Store_Append.M
  unfold snapshot_Store_Append.N at h
  refine bif_of (fun c3 => ?_) (fun c3 => ?_)
  · have h := h.1 (isNone_t c3)
    exact h
  · have h := h.2 (isNone_f c3)
    obtain ⟨a4, aa, h⟩ := h
    refine elim_some aa ?_
    obtain ⟨a5, am, h⟩ := h
    refine ⟨a5, am, ?_⟩
    refine bif_of (fun c7 => ?_) (fun c7 => ?_)
    · have h := h.1 c7
      refine (journal_Parts.pure (a8 : Int)).mono fun ee ww8 ⟨he, hxx⟩ => ⟨(journal_Parts.F (a8 : Int)), he, ?_⟩
      have a9 := (Ext.refl no w).trans hxx
      refine bif_of (fun c9 => ?_) (fun c9 => ?_)
      · have h := h.1 (of_decide_eq_true c9)
        have h := h ww8 a9
        exact h
      · have h := h.2 (Int.not_lt.1 (of_decide_eq_false c9))
        refine elim_some aa ?_
        obtain ⟨a3, ab, h⟩ := h
        refine ⟨a3, (a9).cell ab id, ?_⟩
        have h := h ww8 a9
        refine h.mono fun af ai h => ?_
        obtain ⟨a0, he, h⟩ := h
        refine ⟨a0, he, ?_⟩
        refine h.mono fun ah ag h => ?_
        obtain ⟨a7, he, h⟩ := h
        refine ⟨a7, he, ?_⟩
        exact h
    · have h := h.2 c7
      refine elim_some aa ?_
      obtain ⟨a2, ac, h⟩ := h
      refine ⟨a2, ac, ?_⟩
      refine h.mono fun ak an h => ?_
      obtain ⟨a1, he, h⟩ := h
      refine ⟨a1, he, ?_⟩
      refine h.mono fun aj al h => ?_
      obtain ⟨a6, he, h⟩ := h
      refine ⟨a6, he, ?_⟩
      exact h

theorem snapshot_Store_Append.go (s1 : Option Addr) (a1 : Option Addr) (a2 : Nat) (a0 : Nat) {R : Value → World → Prop} {w : World} (h : snapshot_Store_Append.N s1 a1 a2 a0 R w) : Calls Try.prog 11 #[.pointer s1, .slice a1 a2 a0] w fun e w' => ∃ v, e = .returned v ∧ R v w' := snapshot_Store_Append.ok s1 a1 a2 a0 (snapshot_Store_Append.up s1 a1 a2 a0 h)
theorem snapshot_Store_Append.run (s1 : Option Addr) (a1 : Option Addr) (a2 : Nat) (a0 : Nat) {V : Value} {Q : World → Prop} {w : World} (h : snapshot_Store_Append.N s1 a1 a2 a0 (fun v w' => v = V ∧ Q w') w) : Calls Try.prog 11 #[.pointer s1, .slice a1 a2 a0] w (Ret V Q) := (snapshot_Store_Append.go s1 a1 a2 a0 h).mono fun e w' ⟨v, he, hv, hq⟩ => ⟨by rw [he, hv], hq⟩

/-- (*snapshot.Store).Count -/
def snapshot_Store_Count.M (s1 : Option Addr) (R : Value → World → Prop) (w : World) : Prop :=
 bif Option.isNone s1 then (
 R (.int .i64 0) w) else (
 s1.elim False fun a2 =>
 ∃ (a1 : Option Addr), w.cell? (a2.add 3) = some (.pointer a1) ∧
 Calls Try.prog 43 #[.pointer a1] w fun a4 a3 => ∃ (a0 : Int), a4 = .returned (.int .i64 a0) ∧
 R (.int .i64 (IntKind.i64.wrap (a0 - 1))) a3)

theorem snapshot_Store_Count.eq (s1 : Option Addr) (R : Value → World → Prop) (w : World) : mfunc Try.prog [] 15 [.pointer s1] R w = snapshot_Store_Count.M s1 R w := by kernel_rfl
theorem snapshot_Store_Count.ok (s1 : Option Addr) {R : Value → World → Prop} {w : World} (h : snapshot_Store_Count.M s1 R w) : Calls Try.prog 15 #[.pointer s1] w fun e w' => ∃ v, e = .returned v ∧ R v w' :=
  mfunc_ok follows (H := []) (args := [.pointer s1]) (by rw [snapshot_Store_Count.eq]; exact h)

def snapshot_Store_Count.N (s1 : Option Addr) (R : Value → World → Prop) (w : World) : Prop :=
 (s1 = none →
 R (.int .i64 0) w) ∧
 (s1 ≠ none →
 ∃ a3 : Addr, s1 = some a3 ∧
 ∃ (a1 : Option Addr), w.cell? (a3.add 3) = some (.pointer a1) ∧
 Calls Try.prog 43 #[.pointer a1] w fun a2 a4 => ∃ (a0 : Int), a2 = .returned (.int .i64 a0) ∧
 (-9223372036854775808 : Int) ≤ (a0 - 1) ∧ (a0 - 1) < 9223372036854775808 ∧
 R (.int .i64 (a0 - 1)) a4)

theorem snapshot_Store_Count.up (s1 : Option Addr) {R : Value → World → Prop} {w : World} (h : snapshot_Store_Count.N s1 R w) : snapshot_Store_Count.M s1 R w := by
  unfold snapshot_Store_Count.M
  unfold snapshot_Store_Count.N at h
  refine bif_of (fun c2 => ?_) (fun c2 => ?_)
  · have h := h.1 (isNone_t c2)
    exact h
  · have h := h.2 (isNone_f c2)
    obtain ⟨a3, a5, h⟩ := h
    refine elim_some a5 ?_
    obtain ⟨a1, a2, h⟩ := h
    refine ⟨a1, a2, ?_⟩
    refine h.mono fun a8 a7 h => ?_
    obtain ⟨a0, he, h⟩ := h
    refine ⟨a0, he, ?_⟩
    obtain ⟨a4, a6, h⟩ := h
    try rw [w64 a4 a6]
    exact h

theorem snapshot_Store_Count.go (s1 : Option Addr) {R : Value → World → Prop} {w : World} (h : snapshot_Store_Count.N s1 R w) : Calls Try.prog 15 #[.pointer s1] w fun e w' => ∃ v, e = .returned v ∧ R v w' := snapshot_Store_Count.ok s1 (snapshot_Store_Count.up s1 h)
theorem snapshot_Store_Count.run (s1 : Option Addr) {V : Value} {Q : World → Prop} {w : World} (h : snapshot_Store_Count.N s1 (fun v w' => v = V ∧ Q w') w) : Calls Try.prog 15 #[.pointer s1] w (Ret V Q) := (snapshot_Store_Count.go s1 h).mono fun e w' ⟨v, he, hv, hq⟩ => ⟨by rw [he, hv], hq⟩

/-- (*snapshot.Store).Room -/
def snapshot_Store_Room.M (s1 : Option Addr) (R : Value → World → Prop) (w : World) : Prop :=
 bif Option.isNone s1 then (
 R (.int .i64 0) w) else (
 s1.elim False fun a2 =>
 ∃ (a1 : Option Addr), w.cell? (a2.add 3) = some (.pointer a1) ∧
 Calls Try.prog 44 #[.pointer a1] w fun a4 a3 => ∃ (a0 : Int), a4 = .returned (.int .i64 a0) ∧
 R (.int .i64 a0) a3)

theorem snapshot_Store_Room.eq (s1 : Option Addr) (R : Value → World → Prop) (w : World) : mfunc Try.prog [] 16 [.pointer s1] R w = snapshot_Store_Room.M s1 R w := by kernel_rfl
theorem snapshot_Store_Room.ok (s1 : Option Addr) {R : Value → World → Prop} {w : World} (h : snapshot_Store_Room.M s1 R w) : Calls Try.prog 16 #[.pointer s1] w fun e w' => ∃ v, e = .returned v ∧ R v w' :=
  mfunc_ok follows (H := []) (args := [.pointer s1]) (by rw [snapshot_Store_Room.eq]; exact h)

def snapshot_Store_Room.N (s1 : Option Addr) (R : Value → World → Prop) (w : World) : Prop :=
 (s1 = none →
 R (.int .i64 0) w) ∧
 (s1 ≠ none →
 ∃ a3 : Addr, s1 = some a3 ∧
 ∃ (a1 : Option Addr), w.cell? (a3.add 3) = some (.pointer a1) ∧
 Calls Try.prog 44 #[.pointer a1] w fun a2 a4 => ∃ (a0 : Int), a2 = .returned (.int .i64 a0) ∧
 R (.int .i64 a0) a4)

theorem snapshot_Store_Room.up (s1 : Option Addr) {R : Value → World → Prop} {w : World} (h : snapshot_Store_Room.N s1 R w) : snapshot_Store_Room.M s1 R w := by
  unfold snapshot_Store_Room.M
  unfold snapshot_Store_Room.N at h
  refine bif_of (fun c2 => ?_) (fun c2 => ?_)
  · have h := h.1 (isNone_t c2)
    exact h
  · have h := h.2 (isNone_f c2)
    obtain ⟨a3, a4, h⟩ := h
    refine elim_some a4 ?_
    obtain ⟨a1, a2, h⟩ := h
    refine ⟨a1, a2, ?_⟩
    refine h.mono fun a6 a5 h => ?_
    obtain ⟨a0, he, h⟩ := h
    refine ⟨a0, he, ?_⟩
    exact h

theorem snapshot_Store_Room.go (s1 : Option Addr) {R : Value → World → Prop} {w : World} (h : snapshot_Store_Room.N s1 R w) : Calls Try.prog 16 #[.pointer s1] w fun e w' => ∃ v, e = .returned v ∧ R v w' := snapshot_Store_Room.ok s1 (snapshot_Store_Room.up s1 h)
theorem snapshot_Store_Room.run (s1 : Option Addr) {V : Value} {Q : World → Prop} {w : World} (h : snapshot_Store_Room.N s1 (fun v w' => v = V ∧ Q w') w) : Calls Try.prog 16 #[.pointer s1] w (Ret V Q) := (snapshot_Store_Room.go s1 h).mono fun e w' ⟨v, he, hv, hq⟩ => ⟨by rw [he, hv], hq⟩

/-- (*snapshot.Store).Number -/
def snapshot_Store_Number.M (s1 : Option Addr) (R : Value → World → Prop) (w : World) : Prop :=
 bif Option.isNone s1 then (
 R (.int .u32 0) w) else (
 s1.elim False fun a2 =>
 ∃ (a0 : Int), w.cell? (a2.add 2) = some (.int .u32 a0) ∧
 R (.int .u32 a0) w)

theorem snapshot_Store_Number.eq (s1 : Option Addr) (R : Value → World → Prop) (w : World) : mfunc Try.prog [] 17 [.pointer s1] R w = snapshot_Store_Number.M s1 R w := by kernel_rfl
theorem snapshot_Store_Number.ok (s1 : Option Addr) {R : Value → World → Prop} {w : World} (h : snapshot_Store_Number.M s1 R w) : Calls Try.prog 17 #[.pointer s1] w fun e w' => ∃ v, e = .returned v ∧ R v w' :=
  mfunc_ok follows (H := []) (args := [.pointer s1]) (by rw [snapshot_Store_Number.eq]; exact h)

def snapshot_Store_Number.N (s1 : Option Addr) (R : Value → World → Prop) (w : World) : Prop :=
 (s1 = none →
 R (.int .u32 0) w) ∧
 (s1 ≠ none →
 ∃ a3 : Addr, s1 = some a3 ∧
 ∃ (a0 : Int), w.cell? (a3.add 2) = some (.int .u32 a0) ∧
 R (.int .u32 a0) w)

theorem snapshot_Store_Number.up (s1 : Option Addr) {R : Value → World → Prop} {w : World} (h : snapshot_Store_Number.N s1 R w) : snapshot_Store_Number.M s1 R w := by
  unfold snapshot_Store_Number.M
  unfold snapshot_Store_Number.N at h
  refine bif_of (fun c2 => ?_) (fun c2 => ?_)
  · have h := h.1 (isNone_t c2)
    exact h
  · have h := h.2 (isNone_f c2)
    obtain ⟨a3, a1, h⟩ := h
    refine elim_some a1 ?_
    obtain ⟨a0, a2, h⟩ := h
    refine ⟨a0, a2, ?_⟩
    exact h

theorem snapshot_Store_Number.go (s1 : Option Addr) {R : Value → World → Prop} {w : World} (h : snapshot_Store_Number.N s1 R w) : Calls Try.prog 17 #[.pointer s1] w fun e w' => ∃ v, e = .returned v ∧ R v w' := snapshot_Store_Number.ok s1 (snapshot_Store_Number.up s1 h)
theorem snapshot_Store_Number.run (s1 : Option Addr) {V : Value} {Q : World → Prop} {w : World} (h : snapshot_Store_Number.N s1 (fun v w' => v = V ∧ Q w') w) : Calls Try.prog 17 #[.pointer s1] w (Ret V Q) := (snapshot_Store_Number.go s1 h).mono fun e w' ⟨v, he, hv, hq⟩ => ⟨by rw [he, hv], hq⟩

/-- snapshot.Open -/
def snapshot_Open.M (d1 : Option Addr) (R : Value → World → Prop) (w : World) : Prop :=
 bif Option.isNone d1 then (
 R (.tuple #[.pointer none, .slice none 0 0, .slice none 0 0, .int .i64 23]) w) else (
 Calls Try.prog 22 #[.pointer d1] w fun b4 b2 => ∃ (ab : Int), b4 = .returned (.int .i64 ab) ∧
 bif decide (ab < 6) then (
 R (.tuple #[.pointer none, .slice none 0 0, .slice none 0 0, .int .i64 1]) b2) else (
 Calls Try.prog 23 #[.pointer d1] b2 fun b6 b1 => ∃ (ai : Bool), b6 = .returned (.bool ai) ∧
 bif ai then (
 R (.tuple #[.pointer none, .slice none 0 0, .slice none 0 0, .int .i64 19]) b1) else (
 Calls Try.prog 22 #[.pointer d1] b1 fun b3 a1 => ∃ (a9 : Int), b3 = .returned (.int .i64 a9) ∧
 2 ≠ (0 : Int) ∧ thenW (a1.alloc (.cells #[.pointer d1, .int .i64 (IntKind.i64.wrap (Int.tdiv (IntKind.i64.wrap (a9 - 2)) 2)), .int .u32 0, .pointer none, .bool false] 60)) fun ar =>
 Calls Try.prog 24 #[.func (.func 25) #[.pointer d1] #[], .int .i64 0] ar fun au ax => ∃ (a5 : Int), au = .returned (.int .u32 a5) ∧
 Calls Try.prog 24 #[.func (.func 25) #[.pointer d1] #[], .int .i64 1] ax fun av am => ∃ (a6 : Int), av = .returned (.int .u32 a6) ∧
 canStore am (((blk a1.heap.size).add 2).add 0) ∧
 thenW (am.setCell (((blk a1.heap.size).add 2).add 0) (.int .u32 (if (a6 : Int) > a5 then a6 else a5))) fun ak =>
 ∃ (ac : Int), ak.cell? ((blk a1.heap.size).add 2) = some (.int .u32 ac) ∧
 bif ac == 0 then (
 Calls Try.prog 10 #[.pointer (some (blk a1.heap.size)), .slice none 0 0] ak fun b0 aq => ∃ (a3 : Int), b0 = .returned (.int .i64 a3) ∧
 bif a3 != 0 then (
 R (.tuple #[.pointer none, .slice none 0 0, .slice none 0 0, .int .i64 a3]) aq) else (
 R (.tuple #[.pointer (some (blk a1.heap.size)), .slice none 0 0, .slice none 0 0, .int .i64 0]) aq)) else (
 thenW (ak.drew) fun ah =>
 ∃ (aa : Int), ah.cell? ((blk a1.heap.size).add 2) = some (.int .u32 aa) ∧
 ∃ (ad : Int), ah.cell? ((blk a1.heap.size).add 1) = some (.int .i64 ad) ∧
 ∃ (a4 : Int), ah.cell? ((blk a1.heap.size).add 2) = some (.int .u32 a4) ∧
 Calls Try.prog 27 #[.pointer (some (blk a1.heap.size)), .int .u32 aa] ah fun aw aj => ∃ (af : Int), aw = .returned (.int .i64 af) ∧
 aj.cell? ((blk a1.heap.size).add 2) = some (.int .u32 a4) ∧
 aj.cell? ((blk a1.heap.size).add 1) = some (.int .i64 ad) ∧
 Calls Try.prog 26 #[.pointer d1, .int .i64 af, .int .i64 ad, .int .u32 a4] aj fun ay ag => ∃ (ae : Option Addr) (a2 : Option Addr) (a0 : Nat) (a7 : Nat) (a8 : Int), ay = .returned (.tuple #[.pointer ae, .slice a2 a0 a7, .int .i64 a8]) ∧
 bif a8 != 0 then (
 R (.tuple #[.pointer none, .slice none 0 0, .slice none 0 0, .int .i64 a8]) ag) else (
 bif (a0 : Int) == 0 then (
 R (.tuple #[.pointer none, .slice none 0 0, .slice none 0 0, .int .i64 4]) ag) else (
 canStore ag (((blk a1.heap.size).add 3).add 0) ∧
 thenW (ag.setCell (((blk a1.heap.size).add 3).add 0) (.pointer ae)) fun az =>
 thenW (az.drew) fun ao =>
 a2.elim False fun b5 =>
 0 ≤ (0 : Int) ∧ (0 : Int) < (a0 : Int) ∧
 ∃ (ap : Option Addr) (al : Nat) (an : Nat), ao.cell? (b5.add (Int.toNat 0 * 1)) = some (.slice ap al an) ∧
 (0 : Int) ≤ (1 : Int) ∧ (1 : Int) ≤ (a0 : Int) ∧
 R (.tuple #[.pointer (some (blk a1.heap.size)), .slice ap al an, .slice (if a7 = Int.toNat 1 then a2 else Option.map (fun z : Addr => z.add ((Int.toNat 1) * 1)) a2) (a0 - (Int.toNat 1)) (a7 - (Int.toNat 1)), .int .i64 0]) ao))))))

theorem snapshot_Open.eq (d1 : Option Addr) (R : Value → World → Prop) (w : World) : mfunc Try.prog [] 8 [.pointer d1] R w = snapshot_Open.M d1 R w := by kernel_rfl
theorem snapshot_Open.ok (d1 : Option Addr) {R : Value → World → Prop} {w : World} (h : snapshot_Open.M d1 R w) : Calls Try.prog 8 #[.pointer d1] w fun e w' => ∃ v, e = .returned v ∧ R v w' :=
  mfunc_ok follows (H := []) (args := [.pointer d1]) (by rw [snapshot_Open.eq]; exact h)

def snapshot_Open.N (d1 : Option Addr) (R : Value → World → Prop) (w : World) : Prop :=
 (d1 = none →
 R (.tuple #[.pointer none, .slice none 0 0, .slice none 0 0, .int .i64 23]) w) ∧
 (d1 ≠ none →
 Calls Try.prog 22 #[.pointer d1] w fun b6 b4 => ∃ (a4 : Int), b6 = .returned (.int .i64 a4) ∧
 (a4 < 6 →
 R (.tuple #[.pointer none, .slice none 0 0, .slice none 0 0, .int .i64 1]) b4) ∧
 ((6 : Int) ≤ a4 →
 Calls Try.prog 23 #[.pointer d1] b4 fun b7 b3 => ∃ (ag : Bool), b7 = .returned (.bool ag) ∧
 (ag = true →
 R (.tuple #[.pointer none, .slice none 0 0, .slice none 0 0, .int .i64 19]) b3) ∧
 (ag = false →
 Calls Try.prog 22 #[.pointer d1] b3 fun ay ao => ∃ (a1 : Int), ay = .returned (.int .i64 a1) ∧
 (-9223372036854775808 : Int) ≤ (a1 - 2) ∧ (a1 - 2) < 9223372036854775808 ∧
 ∀ (ai : World) (ac : Nat), Ext no ao ai → Blk ai ac 60 [.pointer d1, .int .i64 (IntKind.i64.wrap (Int.tdiv (a1 - 2) 2)), .int .u32 0, .pointer none, .bool false] → ao.heap.size ≤ ac → ac < ai.heap.size →
 Calls Try.prog 24 #[.func (.func 25) #[.pointer d1] #[], .int .i64 0] ai fun az b1 => ∃ (a8 : Int), az = .returned (.int .u32 a8) ∧
 Calls Try.prog 24 #[.func (.func 25) #[.pointer d1] #[], .int .i64 1] b1 fun ax al => ∃ (a7 : Int), ax = .returned (.int .u32 a7) ∧
 canStore al (((blk ac).add 2).add 0) ∧
 thenW (al.setCell (((blk ac).add 2).add 0) (.int .u32 (if (a7 : Int) > a8 then a7 else a8))) fun af =>
 ∃ (a6 : Int), af.cell? ((blk ac).add 2) = some (.int .u32 a6) ∧
 (a6 = 0 →
 Calls Try.prog 10 #[.pointer (some (blk ac)), .slice none 0 0] af fun b2 aq => ∃ (a2 : Int), b2 = .returned (.int .i64 a2) ∧
 (a2 ≠ 0 →
 R (.tuple #[.pointer none, .slice none 0 0, .slice none 0 0, .int .i64 a2]) aq) ∧
 (a2 = 0 →
 R (.tuple #[.pointer (some (blk ac)), .slice none 0 0, .slice none 0 0, .int .i64 0]) aq)) ∧
 (a6 ≠ 0 →
 ∃ (ab : Int), af.cell? ((blk ac).add 2) = some (.int .u32 ab) ∧
 ∃ (ad : Int), af.cell? ((blk ac).add 1) = some (.int .i64 ad) ∧
 ∃ (a5 : Int), af.cell? ((blk ac).add 2) = some (.int .u32 a5) ∧
 ∀ (ar : World), Ext no af ar →
 Calls Try.prog 27 #[.pointer (some (blk ac)), .int .u32 ab] ar fun b0 ak => ∃ (ah : Int), b0 = .returned (.int .i64 ah) ∧
 ak.cell? ((blk ac).add 2) = some (.int .u32 a5) ∧
 ak.cell? ((blk ac).add 1) = some (.int .i64 ad) ∧
 Calls Try.prog 26 #[.pointer d1, .int .i64 ah, .int .i64 ad, .int .u32 a5] ak fun aw aj => ∃ (ae : Option Addr) (aa : Option Addr) (a0 : Nat) (a9 : Nat) (a3 : Int), aw = .returned (.tuple #[.pointer ae, .slice aa a0 a9, .int .i64 a3]) ∧
 (a3 ≠ 0 →
 R (.tuple #[.pointer none, .slice none 0 0, .slice none 0 0, .int .i64 a3]) aj) ∧
 (a3 = 0 →
 ((a0 : Int) = 0 →
 R (.tuple #[.pointer none, .slice none 0 0, .slice none 0 0, .int .i64 4]) aj) ∧
 ((a0 : Int) ≠ 0 →
 canStore aj (((blk ac).add 3).add 0) ∧
 thenW (aj.setCell (((blk ac).add 3).add 0) (.pointer ae)) fun ap =>
 ∃ b5 : Addr, aa = some b5 ∧
 (0 : Int) < (a0 : Int) ∧
 ∃ (av : Option Addr) (an : Nat) (am : Nat), ap.cell? (b5.add (Int.toNat 0 * 1)) = some (.slice av an am) ∧
 (1 : Int) ≤ (a0 : Int) ∧ 
 ∀ (au : World), Ext no ap au →
 R (.tuple #[.pointer (some (blk ac)), .slice av an am, .slice (cutA aa a9 1 1) (a0 - 1) (a9 - 1), .int .i64 0]) au))))))

theorem snapshot_Open.up (d1 : Option Addr) {R : Value → World → Prop} {w : World} (h : snapshot_Open.N d1 R w) : snapshot_Open.M d1 R w := by
  unfold snapshot_Open.M
  unfold snapshot_Open.N at h
  refine bif_of (fun c2 => ?_) (fun c2 => ?_)
  · have h := h.1 (isNone_t c2)
    exact h
  · have h := h.2 (isNone_f c2)
    refine h.mono fun bs br h => ?_
    obtain ⟨a3, he, h⟩ := h
    refine ⟨a3, he, ?_⟩
    refine bif_of (fun c6 => ?_) (fun c6 => ?_)
    · have h := h.1 (of_decide_eq_true c6)
      exact h
    · have h := h.2 (Int.not_lt.1 (of_decide_eq_false c6))
      refine h.mono fun bu bq h => ?_
      obtain ⟨ah, he, h⟩ := h
      refine ⟨ah, he, ?_⟩
      refine bif_of (fun al => ?_) (fun al => ?_)
      · have h := h.1 al
        exact h
      · have h := h.2 al
        refine h.mono fun bf af h => ?_
        obtain ⟨a0, he, h⟩ := h
        refine ⟨a0, he, ?_⟩
        obtain ⟨bn, bd, h⟩ := h
        try rw [w64 bn bd]
        refine ⟨by decide, ?_⟩
        refine thenW_in fun ar av => ?_
        have h := h ar af.heap.size ((Ext.refl no af).x_alloc av) (Blk.of_new av) ((Ext.refl no af)).size (size_lt_alloc av)
        refine h.mono fun bi bp h => ?_
        obtain ⟨a8, he, h⟩ := h
        refine ⟨a8, he, ?_⟩
        refine h.mono fun bb b8 h => ?_
        obtain ⟨a7, he, h⟩ := h
        refine ⟨a7, he, ?_⟩
        obtain ⟨hcs, h⟩ := h
        refine ⟨hcs, thenW_in fun b6 bg => ?_⟩
        replace h := thenW_out h bg
        obtain ⟨a5, b3, h⟩ := h
        refine ⟨a5, b3, ?_⟩
        refine bif_of (fun aj => ?_) (fun aj => ?_)
        · have h := h.1 (beq_t aj)
          refine h.mono fun b9 be h => ?_
          obtain ⟨a1, he, h⟩ := h
          refine ⟨a1, he, ?_⟩
          refine bif_of (fun ak => ?_) (fun ak => ?_)
          · have h := h.1 (bne_t ak)
            exact h
          · have h := h.2 (bne_f ak)
            exact h
        · have h := h.2 (beq_f aj)
          refine thenW_in fun ay b7 => ?_
          have ac := (Ext.refl no b6).x_drew b7
          obtain ⟨a6, ax, h⟩ := h
          refine ⟨a6, (ac).cell ax id, ?_⟩
          obtain ⟨ag, an, h⟩ := h
          refine ⟨ag, (ac).cell an id, ?_⟩
          obtain ⟨a4, b5, h⟩ := h
          refine ⟨a4, (ac).cell b5 id, ?_⟩
          have h := h ay ac
          refine h.mono fun bj bl h => ?_
          obtain ⟨ae, he, h⟩ := h
          refine ⟨ae, he, ?_⟩
          obtain ⟨ap, aq, h⟩ := h
          refine ⟨ap, aq, ?_⟩
          refine h.mono fun ba bh h => ?_
          obtain ⟨ab, aa, a2, a9, ad, he, h⟩ := h
          refine ⟨ab, aa, a2, a9, ad, he, ?_⟩
          refine bif_of (fun b2 => ?_) (fun b2 => ?_)
          · have h := h.1 (bne_t b2)
            exact h
          · have h := h.2 (bne_f b2)
            refine bif_of (fun b4 => ?_) (fun b4 => ?_)
            · have h := h.1 (beq_t b4)
              exact h
            · have h := h.2 (beq_f b4)
              obtain ⟨hcs, h⟩ := h
              refine ⟨hcs, thenW_in fun aw bc => ?_⟩
              replace h := thenW_out h bc
              refine thenW_in fun az bm => ?_
              have ai := (Ext.refl no aw).x_drew bm
              obtain ⟨bt, b1, h⟩ := h
              refine elim_some b1 ?_
              obtain ⟨bk, h⟩ := h
              refine ⟨by decide, bk, ?_⟩
              obtain ⟨au, ao, am, b0, h⟩ := h
              refine ⟨au, ao, am, (ai).cell b0 id, ?_⟩
              obtain ⟨bo, h⟩ := h
              refine ⟨by decide, bo, ?_⟩
              have h := h az ai
              exact h

theorem snapshot_Open.go (d1 : Option Addr) {R : Value → World → Prop} {w : World} (h : snapshot_Open.N d1 R w) : Calls Try.prog 8 #[.pointer d1] w fun e w' => ∃ v, e = .returned v ∧ R v w' := snapshot_Open.ok d1 (snapshot_Open.up d1 h)
/-- cachetteref11.Head -/
def cachetteref11_Head.M (a4 : Option Addr) (a2 : Nat) (ah : Nat) (a1 : Int) (R : Value → World → Prop) (w : World) : Prop :=
 bif (a2 : Int) != 64 then (
 R (.int .u32 0) w) else (
 a4.elim False fun a3 =>
 0 ≤ (0 : Int) ∧ (0 : Int) < (a2 : Int) ∧
 ∃ (x4 : Int), w.cell? (a3.add (Int.toNat 0 * 1)) = some (.int .u8 x4) ∧
 bif x4 != 94 then (
 R (.int .u32 0) w) else (
 ∃ (I0 : Nat → List Value → World → Prop) (m6 : Nat), I0 m6 [.int .i64 5] w ∧ ∀ (m7 : Nat) (a5 : World) (i5 : Int), I0 m7 [.int .i64 i5] a5 →
 bif decide (i5 < 64) then (
 a4.elim False fun a9 =>
 0 ≤ (i5 : Int) ∧ (i5 : Int) < (a2 : Int) ∧
 ∃ (ac : Int), a5.cell? (a9.add (Int.toNat i5 * 1)) = some (.int .u8 ac) ∧
 bif ac != 0 then (
 R (.int .u32 0) a5) else (
 ∃ ab, ab < m7 ∧ I0 ab [.int .i64 (IntKind.i64.wrap (i5 + 1))] a5)) else (
 thenW (a5.drew) fun a0 =>
 a4.elim False fun af =>
 0 ≤ (1 : Int) ∧ (1 : Int) < (a2 : Int) ∧
 ∃ (a7 : Int), a0.cell? (af.add (Int.toNat 1 * 1)) = some (.int .u8 a7) ∧
 a4.elim False fun ae =>
 0 ≤ (2 : Int) ∧ (2 : Int) < (a2 : Int) ∧
 ∃ (a6 : Int), a0.cell? (ae.add (Int.toNat 2 * 1)) = some (.int .u8 a6) ∧
 a4.elim False fun ag =>
 0 ≤ (3 : Int) ∧ (3 : Int) < (a2 : Int) ∧
 ∃ (aa : Int), a0.cell? (ag.add (Int.toNat 3 * 1)) = some (.int .u8 aa) ∧
 a4.elim False fun ad =>
 0 ≤ (4 : Int) ∧ (4 : Int) < (a2 : Int) ∧
 ∃ (a8 : Int), a0.cell? (ad.add (Int.toNat 4 * 1)) = some (.int .u8 a8) ∧
 bif (IntKind.u32.wrap ((IntKind.u32.wrap ((IntKind.u32.wrap ((IntKind.u32.wrap ((IntKind.u32.wrap a7) * 16777216)) + (IntKind.u32.wrap ((IntKind.u32.wrap a6) * 65536)))) + (IntKind.u32.wrap ((IntKind.u32.wrap aa) * 256)))) + (IntKind.u32.wrap a8))) == 0 then (
 R (.int .u32 0) a0) else (
 2 ≠ (0 : Int) ∧ bif (IntKind.i64.wrap (Int.tmod (IntKind.u32.wrap ((IntKind.u32.wrap ((IntKind.u32.wrap ((IntKind.u32.wrap ((IntKind.u32.wrap a7) * 16777216)) + (IntKind.u32.wrap ((IntKind.u32.wrap a6) * 65536)))) + (IntKind.u32.wrap ((IntKind.u32.wrap aa) * 256)))) + (IntKind.u32.wrap a8))) 2)) != (IntKind.i64.wrap ((1 : Int) - a1)) then (
 R (.int .u32 0) a0) else (
 R (.int .u32 (IntKind.u32.wrap ((IntKind.u32.wrap ((IntKind.u32.wrap ((IntKind.u32.wrap ((IntKind.u32.wrap a7) * 16777216)) + (IntKind.u32.wrap ((IntKind.u32.wrap a6) * 65536)))) + (IntKind.u32.wrap ((IntKind.u32.wrap aa) * 256)))) + (IntKind.u32.wrap a8)))) a0)))))

theorem cachetteref11_Head.eq (b1a : Option Addr) (b1n : Nat) (b1c : Nat) (which2 : Int) (R : Value → World → Prop) (w : World) : mfunc Try.prog [(0, [0, 1], [(5, (.one (.int .i64)))])] 39 [.slice b1a b1n b1c, .int .i64 which2] R w = cachetteref11_Head.M b1a b1n b1c which2 R w := by kernel_rfl
theorem cachetteref11_Head.ok (a3 : Option Addr) (a1 : Nat) (a2 : Nat) (a0 : Int) {R : Value → World → Prop} {w : World} (h : cachetteref11_Head.M a3 a1 a2 a0 R w) : Calls Try.prog 39 #[.slice a3 a1 a2, .int .i64 a0] w fun e w' => ∃ v, e = .returned v ∧ R v w' :=
  mfunc_ok follows (H := [(0, [0, 1], [(5, (.one (.int .i64)))])]) (args := [.slice a3 a1 a2, .int .i64 a0]) (by rw [cachetteref11_Head.eq]; exact h)

def cachetteref11_Head.N (ac : Option Addr) (a3 : Nat) (ad : Nat) (a1 : Int) (R : Value → World → Prop) (w : World) : Prop :=
 ((a3 : Int) ≠ 64 →
 R (.int .u32 0) w) ∧
 ((a3 : Int) = 64 →
 ∃ a4 : Addr, ac = some a4 ∧
 (0 : Int) < (a3 : Int) ∧
 ∃ (x6 : Int), w.cell? (a4.add (Int.toNat 0 * 1)) = some (.int .u8 x6) ∧
 (x6 ≠ 94 →
 R (.int .u32 0) w) ∧
 (x6 = 94 →
 ∃ (I0 : Nat → List Value → World → Prop) (m9 : Nat), I0 m9 [.int .i64 5] w ∧ ∀ (aa : Nat) (a0 : World) (i8 : Int), I0 aa [.int .i64 i8] a0 →
 (i8 < 64 →
 0 ≤ (i8 : Int) ∧ (i8 : Int) < (a3 : Int) ∧
 ∃ (a9 : Int), a0.cell? (a4.add (Int.toNat i8 * 1)) = some (.int .u8 a9) ∧
 (a9 ≠ 0 →
 R (.int .u32 0) a0) ∧
 (a9 = 0 →
 (-9223372036854775808 : Int) ≤ (i8 + 1) ∧ (i8 + 1) < 9223372036854775808 ∧
 ∃ ab, ab < aa ∧ I0 ab [.int .i64 (i8 + 1)] a0)) ∧
 ((64 : Int) ≤ i8 →
 (1 : Int) < (a3 : Int) ∧
 ∃ (a8 : Int), a0.cell? (a4.add (Int.toNat 1 * 1)) = some (.int .u8 a8) ∧
 (2 : Int) < (a3 : Int) ∧
 ∃ (a5 : Int), a0.cell? (a4.add (Int.toNat 2 * 1)) = some (.int .u8 a5) ∧
 (3 : Int) < (a3 : Int) ∧
 ∃ (a6 : Int), a0.cell? (a4.add (Int.toNat 3 * 1)) = some (.int .u8 a6) ∧
 (4 : Int) < (a3 : Int) ∧
 ∃ (a7 : Int), a0.cell? (a4.add (Int.toNat 4 * 1)) = some (.int .u8 a7) ∧
 ((IntKind.u32.wrap ((IntKind.u32.wrap ((IntKind.u32.wrap ((IntKind.u32.wrap ((IntKind.u32.wrap a8) * 16777216)) + (IntKind.u32.wrap ((IntKind.u32.wrap a5) * 65536)))) + (IntKind.u32.wrap ((IntKind.u32.wrap a6) * 256)))) + (IntKind.u32.wrap a7))) = 0 →
 ∀ (a2 : World), Ext no a0 a2 →
 R (.int .u32 0) a2) ∧
 ((IntKind.u32.wrap ((IntKind.u32.wrap ((IntKind.u32.wrap ((IntKind.u32.wrap ((IntKind.u32.wrap a8) * 16777216)) + (IntKind.u32.wrap ((IntKind.u32.wrap a5) * 65536)))) + (IntKind.u32.wrap ((IntKind.u32.wrap a6) * 256)))) + (IntKind.u32.wrap a7))) ≠ 0 →
 (-9223372036854775808 : Int) ≤ (Int.tmod (IntKind.u32.wrap ((IntKind.u32.wrap ((IntKind.u32.wrap ((IntKind.u32.wrap ((IntKind.u32.wrap a8) * 16777216)) + (IntKind.u32.wrap ((IntKind.u32.wrap a5) * 65536)))) + (IntKind.u32.wrap ((IntKind.u32.wrap a6) * 256)))) + (IntKind.u32.wrap a7))) 2) ∧ (Int.tmod (IntKind.u32.wrap ((IntKind.u32.wrap ((IntKind.u32.wrap ((IntKind.u32.wrap ((IntKind.u32.wrap a8) * 16777216)) + (IntKind.u32.wrap ((IntKind.u32.wrap a5) * 65536)))) + (IntKind.u32.wrap ((IntKind.u32.wrap a6) * 256)))) + (IntKind.u32.wrap a7))) 2) < 9223372036854775808 ∧
 (-9223372036854775808 : Int) ≤ ((1 : Int) - a1) ∧ ((1 : Int) - a1) < 9223372036854775808 ∧
 ((Int.tmod (IntKind.u32.wrap ((IntKind.u32.wrap ((IntKind.u32.wrap ((IntKind.u32.wrap ((IntKind.u32.wrap a8) * 16777216)) + (IntKind.u32.wrap ((IntKind.u32.wrap a5) * 65536)))) + (IntKind.u32.wrap ((IntKind.u32.wrap a6) * 256)))) + (IntKind.u32.wrap a7))) 2) ≠ ((1 : Int) - a1) →
 ∀ (a2 : World), Ext no a0 a2 →
 R (.int .u32 0) a2) ∧
 ((Int.tmod (IntKind.u32.wrap ((IntKind.u32.wrap ((IntKind.u32.wrap ((IntKind.u32.wrap ((IntKind.u32.wrap a8) * 16777216)) + (IntKind.u32.wrap ((IntKind.u32.wrap a5) * 65536)))) + (IntKind.u32.wrap ((IntKind.u32.wrap a6) * 256)))) + (IntKind.u32.wrap a7))) 2) = ((1 : Int) - a1) →
 ∀ (a2 : World), Ext no a0 a2 →
 R (.int .u32 (IntKind.u32.wrap ((IntKind.u32.wrap ((IntKind.u32.wrap ((IntKind.u32.wrap ((IntKind.u32.wrap a8) * 16777216)) + (IntKind.u32.wrap ((IntKind.u32.wrap a5) * 65536)))) + (IntKind.u32.wrap ((IntKind.u32.wrap a6) * 256)))) + (IntKind.u32.wrap a7)))) a2)))))

theorem cachetteref11_Head.up (aj : Option Addr) (ak : Nat) (ai : Nat) (a1 : Int) {R : Value → World → Prop} {w : World} (h : cachetteref11_Head.N aj ak ai a1 R w) : cachetteref11_Head.M aj ak ai a1 R w := by
  unfold cachetteref11_Head.M
  unfold cachetteref11_Head.N at h
  refine bif_of (fun c3 => ?_) (fun c3 => ?_)
  · have h := h.1 (bne_t c3)
    exact h
  · have h := h.2 (bne_f c3)
    obtain ⟨a4, a5, h⟩ := h
    refine elim_some a5 ?_
    obtain ⟨a2, h⟩ := h
    refine ⟨by decide, a2, ?_⟩
    obtain ⟨x6, aq, h⟩ := h
    refine ⟨x6, aq, ?_⟩
    refine bif_of (fun c7 => ?_) (fun c7 => ?_)
    · have h := h.1 (bne_t c7)
      exact h
    · have h := h.2 (bne_f c7)
      obtain ⟨I0, m9, h0, h⟩ := h
      refine ⟨I0, m9, h0, fun al a6 i8 hI => ?_⟩
      have h := h al a6 i8 hI
      refine bif_of (fun ah => ?_) (fun ah => ?_)
      · have h := h.1 (of_decide_eq_true ah)
        refine elim_some a5 ?_
        obtain ⟨ar, a2, h⟩ := h
        refine ⟨ar, a2, ?_⟩
        obtain ⟨an, af, h⟩ := h
        refine ⟨an, af, ?_⟩
        refine bif_of (fun ab => ?_) (fun ab => ?_)
        · have h := h.1 (bne_t ab)
          exact h
        · have h := h.2 (bne_f ab)
          obtain ⟨a8, a7, h⟩ := h
          try rw [w64 a8 a7]
          obtain ⟨aw, hk, h⟩ := h
          exact ⟨aw, hk, h⟩
      · have h := h.2 (Int.not_lt.1 (of_decide_eq_false ah))
        refine thenW_in fun a3 ao => ?_
        have a0 := (Ext.refl no a6).x_drew ao
        refine elim_some a5 ?_
        obtain ⟨a2, h⟩ := h
        refine ⟨by decide, a2, ?_⟩
        obtain ⟨am, ae, h⟩ := h
        refine ⟨am, (a0).cell ae id, ?_⟩
        refine elim_some a5 ?_
        obtain ⟨a2, h⟩ := h
        refine ⟨by decide, a2, ?_⟩
        obtain ⟨ap, ag, h⟩ := h
        refine ⟨ap, (a0).cell ag id, ?_⟩
        refine elim_some a5 ?_
        obtain ⟨a2, h⟩ := h
        refine ⟨by decide, a2, ?_⟩
        obtain ⟨au, ac, h⟩ := h
        refine ⟨au, (a0).cell ac id, ?_⟩
        refine elim_some a5 ?_
        obtain ⟨a2, h⟩ := h
        refine ⟨by decide, a2, ?_⟩
        obtain ⟨av, a9, h⟩ := h
        refine ⟨av, (a0).cell a9 id, ?_⟩
        refine bif_of (fun ad => ?_) (fun ad => ?_)
        · have h := h.1 (beq_t ad)
          have h := h a3 a0
          exact h
        · have h := h.2 (beq_f ad)
          refine ⟨by decide, ?_⟩
          obtain ⟨a8, a7, h⟩ := h
          try rw [w64 a8 a7]
          obtain ⟨a8, a7, h⟩ := h
          try rw [w64 a8 a7]
          refine bif_of (fun aa => ?_) (fun aa => ?_)
          · have h := h.1 (bne_t aa)
            have h := h a3 a0
            exact h
          · have h := h.2 (bne_f aa)
            have h := h a3 a0
            exact h

theorem cachetteref11_Head.go (a3 : Option Addr) (a1 : Nat) (a2 : Nat) (a0 : Int) {R : Value → World → Prop} {w : World} (h : cachetteref11_Head.N a3 a1 a2 a0 R w) : Calls Try.prog 39 #[.slice a3 a1 a2, .int .i64 a0] w fun e w' => ∃ v, e = .returned v ∧ R v w' := cachetteref11_Head.ok a3 a1 a2 a0 (cachetteref11_Head.up a3 a1 a2 a0 h)
theorem cachetteref11_Head.run (a3 : Option Addr) (a1 : Nat) (a2 : Nat) (a0 : Int) {V : Value} {Q : World → Prop} {w : World} (h : cachetteref11_Head.N a3 a1 a2 a0 (fun v w' => v = V ∧ Q w') w) : Calls Try.prog 39 #[.slice a3 a1 a2, .int .i64 a0] w (Ret V Q) := (cachetteref11_Head.go a3 a1 a2 a0 h).mono fun e w' ⟨v, he, hv, hq⟩ => ⟨by rw [he, hv], hq⟩

/-- cachetteref11.Of -/
def cachetteref11_Of.M (eb : Option Addr) (a0 : Nat) (dx : Nat) (R : Value → World → Prop) (w : World) : Prop :=
 thenW (w.alloc (.cells #[.int .u32 0, .slice none 0 0, .slice none 0 0, .int .i64 0, .int .i64 0] 41)) fun ix =>
 bif decide ((a0 : Int) < 6) then (
 canStore ix ((blk w.heap.size).add 0) ∧
 thenW (ix.setCell ((blk w.heap.size).add 0) (.int .u32 0)) fun j0 =>
 canStore j0 ((blk w.heap.size).add 1) ∧
 thenW (j0.setCell ((blk w.heap.size).add 1) (.slice none 0 0)) fun j1 =>
 canStore j1 ((blk w.heap.size).add 2) ∧
 thenW (j1.setCell ((blk w.heap.size).add 2) (.slice none 0 0)) fun iz =>
 canStore iz ((blk w.heap.size).add 3) ∧
 thenW (iz.setCell ((blk w.heap.size).add 3) (.int .i64 0)) fun iy =>
 canStore iy ((blk w.heap.size).add 4) ∧
 thenW (iy.setCell ((blk w.heap.size).add 4) (.int .i64 1)) fun j3 =>
 ∃ (cy : Int) (dp : Option Addr) (dm : Nat) (dl : Nat) (ay : Option Addr) (b9 : Nat) (b2 : Nat) (dr : Int) (em : Int), cellsAt j3 (blk w.heap.size) [.int .u32 cy, .slice dp dm dl, .slice ay b9 b2, .int .i64 dr, .int .i64 em] 0 ∧
 R (.agg #[.int .u32 cy, .slice dp dm dl, .slice ay b9 b2, .int .i64 dr, .int .i64 em]) j3) else (
 thenW (ix.drew) fun gb =>
 eb.elim False fun j5 =>
 0 ≤ (0 : Int) ∧ (0 : Int) < (a0 : Int) ∧
 ∃ (ig : Option Addr) (ih : Nat) (gk : Nat), gb.cell? (j5.add (Int.toNat 0 * 1)) = some (.slice ig ih gk) ∧
 eb.elim False fun j2 =>
 0 ≤ (1 : Int) ∧ (1 : Int) < (a0 : Int) ∧
 ∃ (gf : Option Addr) (ge : Nat) (gc : Nat), gb.cell? (j2.add (Int.toNat 1 * 1)) = some (.slice gf ge gc) ∧
 Calls Try.prog 39 #[.slice ig ih gk, .int .i64 0] gb fun it i2 => ∃ (af : Int), it = .returned (.int .u32 af) ∧
 i2.cell? (j2.add (Int.toNat 1 * 1)) = some (.slice gf ge gc) ∧
 Calls Try.prog 39 #[.slice gf ge gc, .int .i64 1] i2 fun ir ei => ∃ (a7 : Int), ir = .returned (.int .u32 a7) ∧
 2 ≠ (0 : Int) ∧ bif af == 0 then (
 bif a7 == 0 then (
 (0 : Int) ≤ ((IntKind.i64.wrap ((2 : Int) + (IntKind.i64.wrap (Int.tdiv (IntKind.i64.wrap ((a0 : Int) - 2)) 2)))) : Int) ∧ ((IntKind.i64.wrap ((2 : Int) + (IntKind.i64.wrap (Int.tdiv (IntKind.i64.wrap ((a0 : Int) - 2)) 2)))) : Int) ≤ (dx : Int) ∧ (0 : Int) ≤ (2 : Int) ∧ (2 : Int) ≤ ((IntKind.i64.wrap ((2 : Int) + (IntKind.i64.wrap (Int.tdiv (IntKind.i64.wrap ((a0 : Int) - 2)) 2)))) : Int) ∧
 Calls Try.prog 40 #[.slice (if dx = Int.toNat 2 then eb else Option.map (fun z : Addr => z.add ((Int.toNat 2) * 1)) eb) ((Int.toNat (IntKind.i64.wrap ((2 : Int) + (IntKind.i64.wrap (Int.tdiv (IntKind.i64.wrap ((a0 : Int) - 2)) 2))))) - (Int.toNat 2)) (dx - (Int.toNat 2)), .int .u32 1] ei fun io ev => ∃ (ew : Option Addr) (et : Nat) (eu : Nat) (gg : Int) (er : Int), io = .returned (.tuple #[.slice ew et eu, .int .i64 gg, .int .u32 er]) ∧
 bif er == 4294967295 then (
 canStore ev ((blk w.heap.size).add 0) ∧
 thenW (ev.setCell ((blk w.heap.size).add 0) (.int .u32 0)) fun i9 =>
 canStore i9 ((blk w.heap.size).add 1) ∧
 thenW (i9.setCell ((blk w.heap.size).add 1) (.slice none 0 0)) fun gr =>
 canStore gr ((blk w.heap.size).add 2) ∧
 thenW (gr.setCell ((blk w.heap.size).add 2) (.slice none 0 0)) fun gw =>
 canStore gw ((blk w.heap.size).add 3) ∧
 thenW (gw.setCell ((blk w.heap.size).add 3) (.int .i64 0)) fun ia =>
 canStore ia ((blk w.heap.size).add 4) ∧
 thenW (ia.setCell ((blk w.heap.size).add 4) (.int .i64 2)) fun gi =>
 ∃ (ca : Int) (cq : Option Addr) (de : Nat) (ct : Nat) (b0 : Option Addr) (b1 : Nat) (b7 : Nat) (dn : Int) (ec : Int), cellsAt gi (blk w.heap.size) [.int .u32 ca, .slice cq de ct, .slice b0 b1 b7, .int .i64 dn, .int .i64 ec] 0 ∧
 R (.agg #[.int .u32 ca, .slice cq de ct, .slice b0 b1 b7, .int .i64 dn, .int .i64 ec]) gi) else (
 canStore ev ((blk w.heap.size).add 0) ∧
 thenW (ev.setCell ((blk w.heap.size).add 0) (.int .u32 0)) fun il =>
 canStore il ((blk w.heap.size).add 1) ∧
 thenW (il.setCell ((blk w.heap.size).add 1) (.slice none 0 0)) fun i0 =>
 canStore i0 ((blk w.heap.size).add 2) ∧
 thenW (i0.setCell ((blk w.heap.size).add 2) (.slice none 0 0)) fun gz =>
 canStore gz ((blk w.heap.size).add 3) ∧
 thenW (gz.setCell ((blk w.heap.size).add 3) (.int .i64 0)) fun ij =>
 canStore ij ((blk w.heap.size).add 4) ∧
 thenW (ij.setCell ((blk w.heap.size).add 4) (.int .i64 0)) fun i7 =>
 ∃ (c5 : Int) (cz : Option Addr) (d7 : Nat) (d0 : Nat) (bc : Option Addr) (bf : Nat) (bd : Nat) (dq : Int) (ee : Int), cellsAt i7 (blk w.heap.size) [.int .u32 c5, .slice cz d7 d0, .slice bc bf bd, .int .i64 dq, .int .i64 ee] 0 ∧
 R (.agg #[.int .u32 c5, .slice cz d7 d0, .slice bc bf bd, .int .i64 dq, .int .i64 ee]) i7)) else (
 bif decide (a7 > af) then (
 (0 : Int) ≤ ((IntKind.i64.wrap ((IntKind.i64.wrap ((2 : Int) + (IntKind.i64.wrap (Int.tdiv (IntKind.i64.wrap ((a0 : Int) - 2)) 2)))) + (IntKind.i64.wrap (Int.tdiv (IntKind.i64.wrap ((a0 : Int) - 2)) 2)))) : Int) ∧ ((IntKind.i64.wrap ((IntKind.i64.wrap ((2 : Int) + (IntKind.i64.wrap (Int.tdiv (IntKind.i64.wrap ((a0 : Int) - 2)) 2)))) + (IntKind.i64.wrap (Int.tdiv (IntKind.i64.wrap ((a0 : Int) - 2)) 2)))) : Int) ≤ (dx : Int) ∧ (0 : Int) ≤ ((IntKind.i64.wrap ((2 : Int) + (IntKind.i64.wrap (Int.tdiv (IntKind.i64.wrap ((a0 : Int) - 2)) 2)))) : Int) ∧ ((IntKind.i64.wrap ((2 : Int) + (IntKind.i64.wrap (Int.tdiv (IntKind.i64.wrap ((a0 : Int) - 2)) 2)))) : Int) ≤ ((IntKind.i64.wrap ((IntKind.i64.wrap ((2 : Int) + (IntKind.i64.wrap (Int.tdiv (IntKind.i64.wrap ((a0 : Int) - 2)) 2)))) + (IntKind.i64.wrap (Int.tdiv (IntKind.i64.wrap ((a0 : Int) - 2)) 2)))) : Int) ∧
 Calls Try.prog 40 #[.slice (if dx = Int.toNat (IntKind.i64.wrap ((2 : Int) + (IntKind.i64.wrap (Int.tdiv (IntKind.i64.wrap ((a0 : Int) - 2)) 2)))) then eb else Option.map (fun z : Addr => z.add ((Int.toNat (IntKind.i64.wrap ((2 : Int) + (IntKind.i64.wrap (Int.tdiv (IntKind.i64.wrap ((a0 : Int) - 2)) 2))))) * 1)) eb) ((Int.toNat (IntKind.i64.wrap ((IntKind.i64.wrap ((2 : Int) + (IntKind.i64.wrap (Int.tdiv (IntKind.i64.wrap ((a0 : Int) - 2)) 2)))) + (IntKind.i64.wrap (Int.tdiv (IntKind.i64.wrap ((a0 : Int) - 2)) 2))))) - (Int.toNat (IntKind.i64.wrap ((2 : Int) + (IntKind.i64.wrap (Int.tdiv (IntKind.i64.wrap ((a0 : Int) - 2)) 2)))))) (dx - (Int.toNat (IntKind.i64.wrap ((2 : Int) + (IntKind.i64.wrap (Int.tdiv (IntKind.i64.wrap ((a0 : Int) - 2)) 2)))))), .int .u32 a7] ei fun ip eo => ∃ (cn : Option Addr) (br : Nat) (du : Nat) (ef : Int) (en : Int), ip = .returned (.tuple #[.slice cn br du, .int .i64 ef, .int .u32 en]) ∧
 bif en == 4294967295 then (
 canStore eo ((blk w.heap.size).add 0) ∧
 thenW (eo.setCell ((blk w.heap.size).add 0) (.int .u32 0)) fun ic =>
 canStore ic ((blk w.heap.size).add 1) ∧
 thenW (ic.setCell ((blk w.heap.size).add 1) (.slice none 0 0)) fun ii =>
 canStore ii ((blk w.heap.size).add 2) ∧
 thenW (ii.setCell ((blk w.heap.size).add 2) (.slice none 0 0)) fun ib =>
 canStore ib ((blk w.heap.size).add 3) ∧
 thenW (ib.setCell ((blk w.heap.size).add 3) (.int .i64 0)) fun gt =>
 canStore gt ((blk w.heap.size).add 4) ∧
 thenW (gt.setCell ((blk w.heap.size).add 4) (.int .i64 2)) fun ik =>
 ∃ (cd : Int) (cs : Option Addr) (df : Nat) (dd : Nat) (av : Option Addr) (aw : Nat) (b4 : Nat) (ds : Int) (eg : Int), cellsAt ik (blk w.heap.size) [.int .u32 cd, .slice cs df dd, .slice av aw b4, .int .i64 ds, .int .i64 eg] 0 ∧
 R (.agg #[.int .u32 cd, .slice cs df dd, .slice av aw b4, .int .i64 ds, .int .i64 eg]) ik) else (
 bif (br : Int) == 0 then (
 canStore eo ((blk w.heap.size).add 0) ∧
 thenW (eo.setCell ((blk w.heap.size).add 0) (.int .u32 0)) fun i5 =>
 canStore i5 ((blk w.heap.size).add 1) ∧
 thenW (i5.setCell ((blk w.heap.size).add 1) (.slice none 0 0)) fun ie =>
 canStore ie ((blk w.heap.size).add 2) ∧
 thenW (ie.setCell ((blk w.heap.size).add 2) (.slice none 0 0)) fun gn =>
 canStore gn ((blk w.heap.size).add 3) ∧
 thenW (gn.setCell ((blk w.heap.size).add 3) (.int .i64 0)) fun gs =>
 canStore gs ((blk w.heap.size).add 4) ∧
 thenW (gs.setCell ((blk w.heap.size).add 4) (.int .i64 4)) fun gx =>
 ∃ (bz : Int) (dh : Option Addr) (dg : Nat) (di : Nat) (ax : Option Addr) (ba : Nat) (b8 : Nat) (dk : Int) (eq : Int), cellsAt gx (blk w.heap.size) [.int .u32 bz, .slice dh dg di, .slice ax ba b8, .int .i64 dk, .int .i64 eq] 0 ∧
 R (.agg #[.int .u32 bz, .slice dh dg di, .slice ax ba b8, .int .i64 dk, .int .i64 eq]) gx) else (
 thenW (eo.drew) fun gd =>
 cn.elim False fun j4 =>
 0 ≤ (0 : Int) ∧ (0 : Int) < (br : Int) ∧
 ∃ (gq : Option Addr) (gu : Nat) (gh : Nat), gd.cell? (j4.add (Int.toNat 0 * 1)) = some (.slice gq gu gh) ∧
 (0 : Int) ≤ (1 : Int) ∧ (1 : Int) ≤ (br : Int) ∧
 canStore gd ((blk w.heap.size).add 0) ∧
 thenW (gd.setCell ((blk w.heap.size).add 0) (.int .u32 a7)) fun gj =>
 canStore gj ((blk w.heap.size).add 1) ∧
 thenW (gj.setCell ((blk w.heap.size).add 1) (.slice gq gu gh)) fun i8 =>
 canStore i8 ((blk w.heap.size).add 2) ∧
 thenW (i8.setCell ((blk w.heap.size).add 2) (.slice (if du = Int.toNat 1 then cn else Option.map (fun z : Addr => z.add ((Int.toNat 1) * 1)) cn) (br - (Int.toNat 1)) (du - (Int.toNat 1)))) fun gy =>
 canStore gy ((blk w.heap.size).add 3) ∧
 thenW (gy.setCell ((blk w.heap.size).add 3) (.int .i64 (IntKind.i64.wrap ((IntKind.i64.wrap (Int.tdiv (IntKind.i64.wrap ((a0 : Int) - 2)) 2)) - ef)))) fun im =>
 canStore im ((blk w.heap.size).add 4) ∧
 thenW (im.setCell ((blk w.heap.size).add 4) (.int .i64 0)) fun i3 =>
 ∃ (cf : Int) (d6 : Option Addr) (db : Nat) (d3 : Nat) (b5 : Option Addr) (bb : Nat) (b6 : Nat) (dj : Int) (ed : Int), cellsAt i3 (blk w.heap.size) [.int .u32 cf, .slice d6 db d3, .slice b5 bb b6, .int .i64 dj, .int .i64 ed] 0 ∧
 R (.agg #[.int .u32 cf, .slice d6 db d3, .slice b5 bb b6, .int .i64 dj, .int .i64 ed]) i3))) else (
 (0 : Int) ≤ ((IntKind.i64.wrap ((2 : Int) + (IntKind.i64.wrap (Int.tdiv (IntKind.i64.wrap ((a0 : Int) - 2)) 2)))) : Int) ∧ ((IntKind.i64.wrap ((2 : Int) + (IntKind.i64.wrap (Int.tdiv (IntKind.i64.wrap ((a0 : Int) - 2)) 2)))) : Int) ≤ (dx : Int) ∧ (0 : Int) ≤ (2 : Int) ∧ (2 : Int) ≤ ((IntKind.i64.wrap ((2 : Int) + (IntKind.i64.wrap (Int.tdiv (IntKind.i64.wrap ((a0 : Int) - 2)) 2)))) : Int) ∧
 Calls Try.prog 40 #[.slice (if dx = Int.toNat 2 then eb else Option.map (fun z : Addr => z.add ((Int.toNat 2) * 1)) eb) ((Int.toNat (IntKind.i64.wrap ((2 : Int) + (IntKind.i64.wrap (Int.tdiv (IntKind.i64.wrap ((a0 : Int) - 2)) 2))))) - (Int.toNat 2)) (dx - (Int.toNat 2)), .int .u32 af] ei fun iq eh => ∃ (co : Option Addr) (bi : Nat) (dt : Nat) (ek : Int) (el : Int), iq = .returned (.tuple #[.slice co bi dt, .int .i64 ek, .int .u32 el]) ∧
 bif el == 4294967295 then (
 canStore eh ((blk w.heap.size).add 0) ∧
 thenW (eh.setCell ((blk w.heap.size).add 0) (.int .u32 0)) fun gm =>
 canStore gm ((blk w.heap.size).add 1) ∧
 thenW (gm.setCell ((blk w.heap.size).add 1) (.slice none 0 0)) fun i6 =>
 canStore i6 ((blk w.heap.size).add 2) ∧
 thenW (i6.setCell ((blk w.heap.size).add 2) (.slice none 0 0)) fun i1 =>
 canStore i1 ((blk w.heap.size).add 3) ∧
 thenW (i1.setCell ((blk w.heap.size).add 3) (.int .i64 0)) fun gl =>
 canStore gl ((blk w.heap.size).add 4) ∧
 thenW (gl.setCell ((blk w.heap.size).add 4) (.int .i64 2)) fun i4 =>
 ∃ (c9 : Int) (dc : Option Addr) (d5 : Nat) (d8 : Nat) (b3 : Option Addr) (az : Nat) (be : Nat) (d2 : Int) (e3 : Int), cellsAt i4 (blk w.heap.size) [.int .u32 c9, .slice dc d5 d8, .slice b3 az be, .int .i64 d2, .int .i64 e3] 0 ∧
 R (.agg #[.int .u32 c9, .slice dc d5 d8, .slice b3 az be, .int .i64 d2, .int .i64 e3]) i4) else (
 bif (bi : Int) == 0 then (
 canStore eh ((blk w.heap.size).add 0) ∧
 thenW (eh.setCell ((blk w.heap.size).add 0) (.int .u32 0)) fun ga =>
 canStore ga ((blk w.heap.size).add 1) ∧
 thenW (ga.setCell ((blk w.heap.size).add 1) (.slice none 0 0)) fun fu =>
 canStore fu ((blk w.heap.size).add 2) ∧
 thenW (fu.setCell ((blk w.heap.size).add 2) (.slice none 0 0)) fun f7 =>
 canStore f7 ((blk w.heap.size).add 3) ∧
 thenW (f7.setCell ((blk w.heap.size).add 3) (.int .i64 0)) fun ez =>
 canStore ez ((blk w.heap.size).add 4) ∧
 thenW (ez.setCell ((blk w.heap.size).add 4) (.int .i64 4)) fun fg =>
 ∃ (bj : Int) (ch : Option Addr) (cl : Nat) (cc : Nat) (a6 : Option Addr) (am : Nat) (ad : Nat) (cp : Int) (ea : Int), cellsAt fg (blk w.heap.size) [.int .u32 bj, .slice ch cl cc, .slice a6 am ad, .int .i64 cp, .int .i64 ea] 0 ∧
 R (.agg #[.int .u32 bj, .slice ch cl cc, .slice a6 am ad, .int .i64 cp, .int .i64 ea]) fg) else (
 thenW (eh.drew) fun es =>
 co.elim False fun iv =>
 0 ≤ (0 : Int) ∧ (0 : Int) < (bi : Int) ∧
 ∃ (fc : Option Addr) (g1 : Nat) (f4 : Nat), es.cell? (iv.add (Int.toNat 0 * 1)) = some (.slice fc g1 f4) ∧
 (0 : Int) ≤ (1 : Int) ∧ (1 : Int) ≤ (bi : Int) ∧
 canStore es ((blk w.heap.size).add 0) ∧
 thenW (es.setCell ((blk w.heap.size).add 0) (.int .u32 af)) fun fx =>
 canStore fx ((blk w.heap.size).add 1) ∧
 thenW (fx.setCell ((blk w.heap.size).add 1) (.slice fc g1 f4)) fun fm =>
 canStore fm ((blk w.heap.size).add 2) ∧
 thenW (fm.setCell ((blk w.heap.size).add 2) (.slice (if dt = Int.toNat 1 then co else Option.map (fun z : Addr => z.add ((Int.toNat 1) * 1)) co) (bi - (Int.toNat 1)) (dt - (Int.toNat 1)))) fun ft =>
 canStore ft ((blk w.heap.size).add 3) ∧
 thenW (ft.setCell ((blk w.heap.size).add 3) (.int .i64 (IntKind.i64.wrap ((IntKind.i64.wrap (Int.tdiv (IntKind.i64.wrap ((a0 : Int) - 2)) 2)) - ek)))) fun fy =>
 canStore fy ((blk w.heap.size).add 4) ∧
 thenW (fy.setCell ((blk w.heap.size).add 4) (.int .i64 0)) fun fl =>
 ∃ (bg : Int) (bu : Option Addr) (ce : Nat) (bs : Nat) (ab : Option Addr) (a9 : Nat) (ah : Nat) (cu : Int) (e9 : Int), cellsAt fl (blk w.heap.size) [.int .u32 bg, .slice bu ce bs, .slice ab a9 ah, .int .i64 cu, .int .i64 e9] 0 ∧
 R (.agg #[.int .u32 bg, .slice bu ce bs, .slice ab a9 ah, .int .i64 cu, .int .i64 e9]) fl))))) else (
 bif decide (a7 > af) then (
 (0 : Int) ≤ ((IntKind.i64.wrap ((IntKind.i64.wrap ((2 : Int) + (IntKind.i64.wrap (Int.tdiv (IntKind.i64.wrap ((a0 : Int) - 2)) 2)))) + (IntKind.i64.wrap (Int.tdiv (IntKind.i64.wrap ((a0 : Int) - 2)) 2)))) : Int) ∧ ((IntKind.i64.wrap ((IntKind.i64.wrap ((2 : Int) + (IntKind.i64.wrap (Int.tdiv (IntKind.i64.wrap ((a0 : Int) - 2)) 2)))) + (IntKind.i64.wrap (Int.tdiv (IntKind.i64.wrap ((a0 : Int) - 2)) 2)))) : Int) ≤ (dx : Int) ∧ (0 : Int) ≤ ((IntKind.i64.wrap ((2 : Int) + (IntKind.i64.wrap (Int.tdiv (IntKind.i64.wrap ((a0 : Int) - 2)) 2)))) : Int) ∧ ((IntKind.i64.wrap ((2 : Int) + (IntKind.i64.wrap (Int.tdiv (IntKind.i64.wrap ((a0 : Int) - 2)) 2)))) : Int) ≤ ((IntKind.i64.wrap ((IntKind.i64.wrap ((2 : Int) + (IntKind.i64.wrap (Int.tdiv (IntKind.i64.wrap ((a0 : Int) - 2)) 2)))) + (IntKind.i64.wrap (Int.tdiv (IntKind.i64.wrap ((a0 : Int) - 2)) 2)))) : Int) ∧
 Calls Try.prog 40 #[.slice (if dx = Int.toNat (IntKind.i64.wrap ((2 : Int) + (IntKind.i64.wrap (Int.tdiv (IntKind.i64.wrap ((a0 : Int) - 2)) 2)))) then eb else Option.map (fun z : Addr => z.add ((Int.toNat (IntKind.i64.wrap ((2 : Int) + (IntKind.i64.wrap (Int.tdiv (IntKind.i64.wrap ((a0 : Int) - 2)) 2))))) * 1)) eb) ((Int.toNat (IntKind.i64.wrap ((IntKind.i64.wrap ((2 : Int) + (IntKind.i64.wrap (Int.tdiv (IntKind.i64.wrap ((a0 : Int) - 2)) 2)))) + (IntKind.i64.wrap (Int.tdiv (IntKind.i64.wrap ((a0 : Int) - 2)) 2))))) - (Int.toNat (IntKind.i64.wrap ((2 : Int) + (IntKind.i64.wrap (Int.tdiv (IntKind.i64.wrap ((a0 : Int) - 2)) 2)))))) (dx - (Int.toNat (IntKind.i64.wrap ((2 : Int) + (IntKind.i64.wrap (Int.tdiv (IntKind.i64.wrap ((a0 : Int) - 2)) 2)))))), .int .u32 a7] ei fun gv dw => ∃ (bl : Option Addr) (ae : Nat) (d1 : Nat) (e4 : Int) (e0 : Int), gv = .returned (.tuple #[.slice bl ae d1, .int .i64 e4, .int .u32 e0]) ∧
 bif e0 == 4294967295 then (
 canStore dw ((blk w.heap.size).add 0) ∧
 thenW (dw.setCell ((blk w.heap.size).add 0) (.int .u32 0)) fun fi =>
 canStore fi ((blk w.heap.size).add 1) ∧
 thenW (fi.setCell ((blk w.heap.size).add 1) (.slice none 0 0)) fun fk =>
 canStore fk ((blk w.heap.size).add 2) ∧
 thenW (fk.setCell ((blk w.heap.size).add 2) (.slice none 0 0)) fun g8 =>
 canStore g8 ((blk w.heap.size).add 3) ∧
 thenW (g8.setCell ((blk w.heap.size).add 3) (.int .i64 0)) fun fh =>
 canStore fh ((blk w.heap.size).add 4) ∧
 thenW (fh.setCell ((blk w.heap.size).add 4) (.int .i64 2)) fun f6 =>
 ∃ (bh : Int) (cm : Option Addr) (bw : Nat) (cj : Nat) (aa : Option Addr) (au : Nat) (ar : Nat) (cv : Int) (e1 : Int), cellsAt f6 (blk w.heap.size) [.int .u32 bh, .slice cm bw cj, .slice aa au ar, .int .i64 cv, .int .i64 e1] 0 ∧
 R (.agg #[.int .u32 bh, .slice cm bw cj, .slice aa au ar, .int .i64 cv, .int .i64 e1]) f6) else (
 bif (ae : Int) == 0 then (
 canStore dw ((blk w.heap.size).add 0) ∧
 thenW (dw.setCell ((blk w.heap.size).add 0) (.int .u32 0)) fun f2 =>
 canStore f2 ((blk w.heap.size).add 1) ∧
 thenW (f2.setCell ((blk w.heap.size).add 1) (.slice none 0 0)) fun f8 =>
 canStore f8 ((blk w.heap.size).add 2) ∧
 thenW (f8.setCell ((blk w.heap.size).add 2) (.slice none 0 0)) fun g9 =>
 canStore g9 ((blk w.heap.size).add 3) ∧
 thenW (g9.setCell ((blk w.heap.size).add 3) (.int .i64 0)) fun fe =>
 canStore fe ((blk w.heap.size).add 4) ∧
 thenW (fe.setCell ((blk w.heap.size).add 4) (.int .i64 4)) fun fz =>
 ∃ (bq : Int) (c3 : Option Addr) (ck : Nat) (c1 : Nat) (a5 : Option Addr) (an : Nat) (a1 : Nat) (cw : Int) (dz : Int), cellsAt fz (blk w.heap.size) [.int .u32 bq, .slice c3 ck c1, .slice a5 an a1, .int .i64 cw, .int .i64 dz] 0 ∧
 R (.agg #[.int .u32 bq, .slice c3 ck c1, .slice a5 an a1, .int .i64 cw, .int .i64 dz]) fz) else (
 thenW (dw.drew) fun ep =>
 bl.elim False fun iu =>
 0 ≤ (0 : Int) ∧ (0 : Int) < (ae : Int) ∧
 ∃ (g0 : Option Addr) (ey : Nat) (fv : Nat), ep.cell? (iu.add (Int.toNat 0 * 1)) = some (.slice g0 ey fv) ∧
 (0 : Int) ≤ (1 : Int) ∧ (1 : Int) ≤ (ae : Int) ∧
 canStore ep ((blk w.heap.size).add 0) ∧
 thenW (ep.setCell ((blk w.heap.size).add 0) (.int .u32 a7)) fun f9 =>
 canStore f9 ((blk w.heap.size).add 1) ∧
 thenW (f9.setCell ((blk w.heap.size).add 1) (.slice g0 ey fv)) fun fd =>
 canStore fd ((blk w.heap.size).add 2) ∧
 thenW (fd.setCell ((blk w.heap.size).add 2) (.slice (if d1 = Int.toNat 1 then bl else Option.map (fun z : Addr => z.add ((Int.toNat 1) * 1)) bl) (ae - (Int.toNat 1)) (d1 - (Int.toNat 1)))) fun fs =>
 canStore fs ((blk w.heap.size).add 3) ∧
 thenW (fs.setCell ((blk w.heap.size).add 3) (.int .i64 (IntKind.i64.wrap ((IntKind.i64.wrap (Int.tdiv (IntKind.i64.wrap ((a0 : Int) - 2)) 2)) - e4)))) fun g3 =>
 canStore g3 ((blk w.heap.size).add 4) ∧
 thenW (g3.setCell ((blk w.heap.size).add 4) (.int .i64 0)) fun fj =>
 ∃ (bn : Int) (ci : Option Addr) (c6 : Nat) (c4 : Nat) (ap : Option Addr) (ak : Nat) (al : Nat) (cr : Int) (e6 : Int), cellsAt fj (blk w.heap.size) [.int .u32 bn, .slice ci c6 c4, .slice ap ak al, .int .i64 cr, .int .i64 e6] 0 ∧
 R (.agg #[.int .u32 bn, .slice ci c6 c4, .slice ap ak al, .int .i64 cr, .int .i64 e6]) fj))) else (
 (0 : Int) ≤ ((IntKind.i64.wrap ((2 : Int) + (IntKind.i64.wrap (Int.tdiv (IntKind.i64.wrap ((a0 : Int) - 2)) 2)))) : Int) ∧ ((IntKind.i64.wrap ((2 : Int) + (IntKind.i64.wrap (Int.tdiv (IntKind.i64.wrap ((a0 : Int) - 2)) 2)))) : Int) ≤ (dx : Int) ∧ (0 : Int) ≤ (2 : Int) ∧ (2 : Int) ≤ ((IntKind.i64.wrap ((2 : Int) + (IntKind.i64.wrap (Int.tdiv (IntKind.i64.wrap ((a0 : Int) - 2)) 2)))) : Int) ∧
 Calls Try.prog 40 #[.slice (if dx = Int.toNat 2 then eb else Option.map (fun z : Addr => z.add ((Int.toNat 2) * 1)) eb) ((Int.toNat (IntKind.i64.wrap ((2 : Int) + (IntKind.i64.wrap (Int.tdiv (IntKind.i64.wrap ((a0 : Int) - 2)) 2))))) - (Int.toNat 2)) (dx - (Int.toNat 2)), .int .u32 af] ei fun gp dv => ∃ (bk : Option Addr) (a3 : Nat) (d4 : Nat) (dy : Int) (e7 : Int), gp = .returned (.tuple #[.slice bk a3 d4, .int .i64 dy, .int .u32 e7]) ∧
 bif e7 == 4294967295 then (
 canStore dv ((blk w.heap.size).add 0) ∧
 thenW (dv.setCell ((blk w.heap.size).add 0) (.int .u32 0)) fun g2 =>
 canStore g2 ((blk w.heap.size).add 1) ∧
 thenW (g2.setCell ((blk w.heap.size).add 1) (.slice none 0 0)) fun g5 =>
 canStore g5 ((blk w.heap.size).add 2) ∧
 thenW (g5.setCell ((blk w.heap.size).add 2) (.slice none 0 0)) fun g4 =>
 canStore g4 ((blk w.heap.size).add 3) ∧
 thenW (g4.setCell ((blk w.heap.size).add 3) (.int .i64 0)) fun f0 =>
 canStore f0 ((blk w.heap.size).add 4) ∧
 thenW (f0.setCell ((blk w.heap.size).add 4) (.int .i64 2)) fun g7 =>
 ∃ (bp : Int) (bt : Option Addr) (cb : Nat) (bv : Nat) (a4 : Option Addr) (ac : Nat) (a8 : Nat) (d9 : Int) (e5 : Int), cellsAt g7 (blk w.heap.size) [.int .u32 bp, .slice bt cb bv, .slice a4 ac a8, .int .i64 d9, .int .i64 e5] 0 ∧
 R (.agg #[.int .u32 bp, .slice bt cb bv, .slice a4 ac a8, .int .i64 d9, .int .i64 e5]) g7) else (
 bif (a3 : Int) == 0 then (
 canStore dv ((blk w.heap.size).add 0) ∧
 thenW (dv.setCell ((blk w.heap.size).add 0) (.int .u32 0)) fun f1 =>
 canStore f1 ((blk w.heap.size).add 1) ∧
 thenW (f1.setCell ((blk w.heap.size).add 1) (.slice none 0 0)) fun ff =>
 canStore ff ((blk w.heap.size).add 2) ∧
 thenW (ff.setCell ((blk w.heap.size).add 2) (.slice none 0 0)) fun ex =>
 canStore ex ((blk w.heap.size).add 3) ∧
 thenW (ex.setCell ((blk w.heap.size).add 3) (.int .i64 0)) fun f5 =>
 canStore f5 ((blk w.heap.size).add 4) ∧
 thenW (f5.setCell ((blk w.heap.size).add 4) (.int .i64 4)) fun g6 =>
 ∃ (bm : Int) (c2 : Option Addr) (c7 : Nat) (cg : Nat) (ag : Option Addr) (ao : Nat) (a2 : Nat) (da : Int) (e2 : Int), cellsAt g6 (blk w.heap.size) [.int .u32 bm, .slice c2 c7 cg, .slice ag ao a2, .int .i64 da, .int .i64 e2] 0 ∧
 R (.agg #[.int .u32 bm, .slice c2 c7 cg, .slice ag ao a2, .int .i64 da, .int .i64 e2]) g6) else (
 thenW (dv.drew) fun ej =>
 bk.elim False fun iw =>
 0 ≤ (0 : Int) ∧ (0 : Int) < (a3 : Int) ∧
 ∃ (fr : Option Addr) (fo : Nat) (fp : Nat), ej.cell? (iw.add (Int.toNat 0 * 1)) = some (.slice fr fo fp) ∧
 (0 : Int) ≤ (1 : Int) ∧ (1 : Int) ≤ (a3 : Int) ∧
 canStore ej ((blk w.heap.size).add 0) ∧
 thenW (ej.setCell ((blk w.heap.size).add 0) (.int .u32 af)) fun fb =>
 canStore fb ((blk w.heap.size).add 1) ∧
 thenW (fb.setCell ((blk w.heap.size).add 1) (.slice fr fo fp)) fun fa =>
 canStore fa ((blk w.heap.size).add 2) ∧
 thenW (fa.setCell ((blk w.heap.size).add 2) (.slice (if d4 = Int.toNat 1 then bk else Option.map (fun z : Addr => z.add ((Int.toNat 1) * 1)) bk) (a3 - (Int.toNat 1)) (d4 - (Int.toNat 1)))) fun fq =>
 canStore fq ((blk w.heap.size).add 3) ∧
 thenW (fq.setCell ((blk w.heap.size).add 3) (.int .i64 (IntKind.i64.wrap ((IntKind.i64.wrap (Int.tdiv (IntKind.i64.wrap ((a0 : Int) - 2)) 2)) - dy)))) fun fw =>
 canStore fw ((blk w.heap.size).add 4) ∧
 thenW (fw.setCell ((blk w.heap.size).add 4) (.int .i64 0)) fun f3 =>
 ∃ (bo : Int) (c8 : Option Addr) (c0 : Nat) (bx : Nat) (aq : Option Addr) (ai : Nat) (aj : Nat) (cx : Int) (e8 : Int), cellsAt f3 (blk w.heap.size) [.int .u32 bo, .slice c8 c0 bx, .slice aq ai aj, .int .i64 cx, .int .i64 e8] 0 ∧
 R (.agg #[.int .u32 bo, .slice c8 c0 bx, .slice aq ai aj, .int .i64 cx, .int .i64 e8]) f3)))))

theorem cachetteref11_Of.eq (l1a : Option Addr) (l1n : Nat) (l1c : Nat) (R : Value → World → Prop) (w : World) : mfunc Try.prog [] 12 [.slice l1a l1n l1c] R w = cachetteref11_Of.M l1a l1n l1c R w := by kernel_rfl
theorem cachetteref11_Of.ok (a1 : Option Addr) (a2 : Nat) (a0 : Nat) {R : Value → World → Prop} {w : World} (h : cachetteref11_Of.M a1 a2 a0 R w) : Calls Try.prog 12 #[.slice a1 a2 a0] w fun e w' => ∃ v, e = .returned v ∧ R v w' :=
  mfunc_ok follows (H := []) (args := [.slice a1 a2 a0]) (by rw [cachetteref11_Of.eq]; exact h)

def cachetteref11_Of.N (bj : Option Addr) (a0 : Nat) (au : Nat) (R : Value → World → Prop) (w : World) : Prop :=
 ((a0 : Int) < 6 →
 ∀ (ce : World), Ext no w ce →
 R (.agg #[.int .u32 0, .slice none 0 0, .slice none 0 0, .int .i64 0, .int .i64 1]) ce) ∧
 ((6 : Int) ≤ (a0 : Int) →
 ∃ c5 : Addr, bj = some c5 ∧
 (0 : Int) < (a0 : Int) ∧
 ∃ (c2 : Option Addr) (bk : Nat) (c0 : Nat), w.cell? (c5.add (Int.toNat 0 * 1)) = some (.slice c2 bk c0) ∧
 (1 : Int) < (a0 : Int) ∧
 ∃ (bg : Option Addr) (bh : Nat) (be : Nat), w.cell? (c5.add (Int.toNat 1 * 1)) = some (.slice bg bh be) ∧
 ∀ (ax : World) (ab : Nat), Ext no w ax → Priv w ax [ab] →
 Calls Try.prog 39 #[.slice c2 bk c0, .int .i64 0] ax fun cb b0 => ∃ (a1 : Int), cb = .returned (.int .u32 a1) ∧
 Keep [ab] ax b0 ∧
 b0.cell? (c5.add (Int.toNat 1 * 1)) = some (.slice bg bh be) ∧
 Calls Try.prog 39 #[.slice bg bh be, .int .i64 1] b0 fun c8 a9 => ∃ (a2 : Int), c8 = .returned (.int .u32 a2) ∧
 Keep [ab] b0 a9 ∧
 (-9223372036854775808 : Int) ≤ ((a0 : Int) - 2) ∧ ((a0 : Int) - 2) < 9223372036854775808 ∧
 (a1 = 0 →
 (a2 = 0 →
 (-9223372036854775808 : Int) ≤ ((2 : Int) + (IntKind.i64.wrap (Int.tdiv ((a0 : Int) - 2) 2))) ∧ ((2 : Int) + (IntKind.i64.wrap (Int.tdiv ((a0 : Int) - 2) 2))) < 9223372036854775808 ∧
 (0 : Int) ≤ (((2 : Int) + (IntKind.i64.wrap (Int.tdiv ((a0 : Int) - 2) 2))) : Int) ∧ (((2 : Int) + (IntKind.i64.wrap (Int.tdiv ((a0 : Int) - 2) 2))) : Int) ≤ (au : Int) ∧ (2 : Int) ≤ (((2 : Int) + (IntKind.i64.wrap (Int.tdiv ((a0 : Int) - 2) 2))) : Int) ∧ 
 Calls Try.prog 40 #[.slice (cutA bj au 2 1) ((Int.toNat ((2 : Int) + (IntKind.i64.wrap (Int.tdiv ((a0 : Int) - 2) 2)))) - 2) (au - 2), .int .u32 1] a9 fun c6 bf => ∃ (b1 : Option Addr) (ay : Nat) (az : Nat) (bi : Int) (ap : Int), c6 = .returned (.tuple #[.slice b1 ay az, .int .i64 bi, .int .u32 ap]) ∧
 Keep [ab] a9 bf ∧
 (ap = 4294967295 →
 ∀ (bl : World), Ext (fun b => b = ab) bf bl →
 R (.agg #[.int .u32 0, .slice none 0 0, .slice none 0 0, .int .i64 0, .int .i64 2]) bl) ∧
 (ap ≠ 4294967295 →
 ∀ (bq : World), Ext (fun b => b = ab) bf bq →
 R (.agg #[.int .u32 0, .slice none 0 0, .slice none 0 0, .int .i64 0, .int .i64 0]) bq)) ∧
 (a2 ≠ 0 →
 (a2 > a1 →
 (-9223372036854775808 : Int) ≤ ((2 : Int) + (IntKind.i64.wrap (Int.tdiv ((a0 : Int) - 2) 2))) ∧ ((2 : Int) + (IntKind.i64.wrap (Int.tdiv ((a0 : Int) - 2) 2))) < 9223372036854775808 ∧
 (-9223372036854775808 : Int) ≤ (((2 : Int) + (IntKind.i64.wrap (Int.tdiv ((a0 : Int) - 2) 2))) + (IntKind.i64.wrap (Int.tdiv ((a0 : Int) - 2) 2))) ∧ (((2 : Int) + (IntKind.i64.wrap (Int.tdiv ((a0 : Int) - 2) 2))) + (IntKind.i64.wrap (Int.tdiv ((a0 : Int) - 2) 2))) < 9223372036854775808 ∧
 (0 : Int) ≤ ((((2 : Int) + (IntKind.i64.wrap (Int.tdiv ((a0 : Int) - 2) 2))) + (IntKind.i64.wrap (Int.tdiv ((a0 : Int) - 2) 2))) : Int) ∧ ((((2 : Int) + (IntKind.i64.wrap (Int.tdiv ((a0 : Int) - 2) 2))) + (IntKind.i64.wrap (Int.tdiv ((a0 : Int) - 2) 2))) : Int) ≤ (au : Int) ∧ (0 : Int) ≤ (((2 : Int) + (IntKind.i64.wrap (Int.tdiv ((a0 : Int) - 2) 2))) : Int) ∧ (((2 : Int) + (IntKind.i64.wrap (Int.tdiv ((a0 : Int) - 2) 2))) : Int) ≤ ((((2 : Int) + (IntKind.i64.wrap (Int.tdiv ((a0 : Int) - 2) 2))) + (IntKind.i64.wrap (Int.tdiv ((a0 : Int) - 2) 2))) : Int) ∧ 
 Calls Try.prog 40 #[.slice (cutA bj au (Int.toNat ((2 : Int) + (IntKind.i64.wrap (Int.tdiv ((a0 : Int) - 2) 2)))) 1) ((Int.toNat (((2 : Int) + (IntKind.i64.wrap (Int.tdiv ((a0 : Int) - 2) 2))) + (IntKind.i64.wrap (Int.tdiv ((a0 : Int) - 2) 2)))) - (Int.toNat ((2 : Int) + (IntKind.i64.wrap (Int.tdiv ((a0 : Int) - 2) 2))))) (au - (Int.toNat ((2 : Int) + (IntKind.i64.wrap (Int.tdiv ((a0 : Int) - 2) 2))))), .int .u32 a2] a9 fun ca av => ∃ (af : Option Addr) (a6 : Nat) (aj : Nat) (ak : Int) (ao : Int), ca = .returned (.tuple #[.slice af a6 aj, .int .i64 ak, .int .u32 ao]) ∧
 Keep [ab] a9 av ∧
 (ao = 4294967295 →
 ∀ (bu : World), Ext (fun b => b = ab) av bu →
 R (.agg #[.int .u32 0, .slice none 0 0, .slice none 0 0, .int .i64 0, .int .i64 2]) bu) ∧
 (ao ≠ 4294967295 →
 ((a6 : Int) = 0 →
 ∀ (bo : World), Ext (fun b => b = ab) av bo →
 R (.agg #[.int .u32 0, .slice none 0 0, .slice none 0 0, .int .i64 0, .int .i64 4]) bo) ∧
 ((a6 : Int) ≠ 0 →
 ∃ cc : Addr, af = some cc ∧
 (0 : Int) < (a6 : Int) ∧
 ∃ (bw : Option Addr) (bv : Nat) (bm : Nat), av.cell? (cc.add (Int.toNat 0 * 1)) = some (.slice bw bv bm) ∧
 (1 : Int) ≤ (a6 : Int) ∧ 
 (-9223372036854775808 : Int) ≤ ((IntKind.i64.wrap (Int.tdiv ((a0 : Int) - 2) 2)) - ak) ∧ ((IntKind.i64.wrap (Int.tdiv ((a0 : Int) - 2) 2)) - ak) < 9223372036854775808 ∧
 ∀ (bn : World), Ext (fun b => b = ab) av bn →
 R (.agg #[.int .u32 a2, .slice bw bv bm, .slice (cutA af aj 1 1) (a6 - 1) (aj - 1), .int .i64 ((IntKind.i64.wrap (Int.tdiv ((a0 : Int) - 2) 2)) - ak), .int .i64 0]) bn))) ∧
 (a2 ≤ a1 →
 (-9223372036854775808 : Int) ≤ ((2 : Int) + (IntKind.i64.wrap (Int.tdiv ((a0 : Int) - 2) 2))) ∧ ((2 : Int) + (IntKind.i64.wrap (Int.tdiv ((a0 : Int) - 2) 2))) < 9223372036854775808 ∧
 (0 : Int) ≤ (((2 : Int) + (IntKind.i64.wrap (Int.tdiv ((a0 : Int) - 2) 2))) : Int) ∧ (((2 : Int) + (IntKind.i64.wrap (Int.tdiv ((a0 : Int) - 2) 2))) : Int) ≤ (au : Int) ∧ (2 : Int) ≤ (((2 : Int) + (IntKind.i64.wrap (Int.tdiv ((a0 : Int) - 2) 2))) : Int) ∧ 
 Calls Try.prog 40 #[.slice (cutA bj au 2 1) ((Int.toNat ((2 : Int) + (IntKind.i64.wrap (Int.tdiv ((a0 : Int) - 2) 2)))) - 2) (au - 2), .int .u32 a1] a9 fun c7 aw => ∃ (ai : Option Addr) (a5 : Nat) (ah : Nat) (ac : Int) (ar : Int), c7 = .returned (.tuple #[.slice ai a5 ah, .int .i64 ac, .int .u32 ar]) ∧
 Keep [ab] a9 aw ∧
 (ar = 4294967295 →
 ∀ (bp : World), Ext (fun b => b = ab) aw bp →
 R (.agg #[.int .u32 0, .slice none 0 0, .slice none 0 0, .int .i64 0, .int .i64 2]) bp) ∧
 (ar ≠ 4294967295 →
 ((a5 : Int) = 0 →
 ∀ (bs : World), Ext (fun b => b = ab) aw bs →
 R (.agg #[.int .u32 0, .slice none 0 0, .slice none 0 0, .int .i64 0, .int .i64 4]) bs) ∧
 ((a5 : Int) ≠ 0 →
 ∃ cd : Addr, ai = some cd ∧
 (0 : Int) < (a5 : Int) ∧
 ∃ (c4 : Option Addr) (bx : Nat) (br : Nat), aw.cell? (cd.add (Int.toNat 0 * 1)) = some (.slice c4 bx br) ∧
 (1 : Int) ≤ (a5 : Int) ∧ 
 (-9223372036854775808 : Int) ≤ ((IntKind.i64.wrap (Int.tdiv ((a0 : Int) - 2) 2)) - ac) ∧ ((IntKind.i64.wrap (Int.tdiv ((a0 : Int) - 2) 2)) - ac) < 9223372036854775808 ∧
 ∀ (bt : World), Ext (fun b => b = ab) aw bt →
 R (.agg #[.int .u32 a1, .slice c4 bx br, .slice (cutA ai ah 1 1) (a5 - 1) (ah - 1), .int .i64 ((IntKind.i64.wrap (Int.tdiv ((a0 : Int) - 2) 2)) - ac), .int .i64 0]) bt))))) ∧
 (a1 ≠ 0 →
 (a2 > a1 →
 (-9223372036854775808 : Int) ≤ ((2 : Int) + (IntKind.i64.wrap (Int.tdiv ((a0 : Int) - 2) 2))) ∧ ((2 : Int) + (IntKind.i64.wrap (Int.tdiv ((a0 : Int) - 2) 2))) < 9223372036854775808 ∧
 (-9223372036854775808 : Int) ≤ (((2 : Int) + (IntKind.i64.wrap (Int.tdiv ((a0 : Int) - 2) 2))) + (IntKind.i64.wrap (Int.tdiv ((a0 : Int) - 2) 2))) ∧ (((2 : Int) + (IntKind.i64.wrap (Int.tdiv ((a0 : Int) - 2) 2))) + (IntKind.i64.wrap (Int.tdiv ((a0 : Int) - 2) 2))) < 9223372036854775808 ∧
 (0 : Int) ≤ ((((2 : Int) + (IntKind.i64.wrap (Int.tdiv ((a0 : Int) - 2) 2))) + (IntKind.i64.wrap (Int.tdiv ((a0 : Int) - 2) 2))) : Int) ∧ ((((2 : Int) + (IntKind.i64.wrap (Int.tdiv ((a0 : Int) - 2) 2))) + (IntKind.i64.wrap (Int.tdiv ((a0 : Int) - 2) 2))) : Int) ≤ (au : Int) ∧ (0 : Int) ≤ (((2 : Int) + (IntKind.i64.wrap (Int.tdiv ((a0 : Int) - 2) 2))) : Int) ∧ (((2 : Int) + (IntKind.i64.wrap (Int.tdiv ((a0 : Int) - 2) 2))) : Int) ≤ ((((2 : Int) + (IntKind.i64.wrap (Int.tdiv ((a0 : Int) - 2) 2))) + (IntKind.i64.wrap (Int.tdiv ((a0 : Int) - 2) 2))) : Int) ∧ 
 Calls Try.prog 40 #[.slice (cutA bj au (Int.toNat ((2 : Int) + (IntKind.i64.wrap (Int.tdiv ((a0 : Int) - 2) 2)))) 1) ((Int.toNat (((2 : Int) + (IntKind.i64.wrap (Int.tdiv ((a0 : Int) - 2) 2))) + (IntKind.i64.wrap (Int.tdiv ((a0 : Int) - 2) 2)))) - (Int.toNat ((2 : Int) + (IntKind.i64.wrap (Int.tdiv ((a0 : Int) - 2) 2))))) (au - (Int.toNat ((2 : Int) + (IntKind.i64.wrap (Int.tdiv ((a0 : Int) - 2) 2))))), .int .u32 a2] a9 fun c9 am => ∃ (ag : Option Addr) (a4 : Nat) (ae : Nat) (ad : Int) (aq : Int), c9 = .returned (.tuple #[.slice ag a4 ae, .int .i64 ad, .int .u32 aq]) ∧
 Keep [ab] a9 am ∧
 (aq = 4294967295 →
 ∀ (b3 : World), Ext (fun b => b = ab) am b3 →
 R (.agg #[.int .u32 0, .slice none 0 0, .slice none 0 0, .int .i64 0, .int .i64 2]) b3) ∧
 (aq ≠ 4294967295 →
 ((a4 : Int) = 0 →
 ∀ (bb : World), Ext (fun b => b = ab) am bb →
 R (.agg #[.int .u32 0, .slice none 0 0, .slice none 0 0, .int .i64 0, .int .i64 4]) bb) ∧
 ((a4 : Int) ≠ 0 →
 ∃ bz : Addr, ag = some bz ∧
 (0 : Int) < (a4 : Int) ∧
 ∃ (b9 : Option Addr) (ba : Nat) (b7 : Nat), am.cell? (bz.add (Int.toNat 0 * 1)) = some (.slice b9 ba b7) ∧
 (1 : Int) ≤ (a4 : Int) ∧ 
 (-9223372036854775808 : Int) ≤ ((IntKind.i64.wrap (Int.tdiv ((a0 : Int) - 2) 2)) - ad) ∧ ((IntKind.i64.wrap (Int.tdiv ((a0 : Int) - 2) 2)) - ad) < 9223372036854775808 ∧
 ∀ (b5 : World), Ext (fun b => b = ab) am b5 →
 R (.agg #[.int .u32 a2, .slice b9 ba b7, .slice (cutA ag ae 1 1) (a4 - 1) (ae - 1), .int .i64 ((IntKind.i64.wrap (Int.tdiv ((a0 : Int) - 2) 2)) - ad), .int .i64 0]) b5))) ∧
 (a2 ≤ a1 →
 (-9223372036854775808 : Int) ≤ ((2 : Int) + (IntKind.i64.wrap (Int.tdiv ((a0 : Int) - 2) 2))) ∧ ((2 : Int) + (IntKind.i64.wrap (Int.tdiv ((a0 : Int) - 2) 2))) < 9223372036854775808 ∧
 (0 : Int) ≤ (((2 : Int) + (IntKind.i64.wrap (Int.tdiv ((a0 : Int) - 2) 2))) : Int) ∧ (((2 : Int) + (IntKind.i64.wrap (Int.tdiv ((a0 : Int) - 2) 2))) : Int) ≤ (au : Int) ∧ (2 : Int) ≤ (((2 : Int) + (IntKind.i64.wrap (Int.tdiv ((a0 : Int) - 2) 2))) : Int) ∧ 
 Calls Try.prog 40 #[.slice (cutA bj au 2 1) ((Int.toNat ((2 : Int) + (IntKind.i64.wrap (Int.tdiv ((a0 : Int) - 2) 2)))) - 2) (au - 2), .int .u32 a1] a9 fun c3 an => ∃ (aa : Option Addr) (a3 : Nat) (a8 : Nat) (a7 : Int) (al : Int), c3 = .returned (.tuple #[.slice aa a3 a8, .int .i64 a7, .int .u32 al]) ∧
 Keep [ab] a9 an ∧
 (al = 4294967295 →
 ∀ (bd : World), Ext (fun b => b = ab) an bd →
 R (.agg #[.int .u32 0, .slice none 0 0, .slice none 0 0, .int .i64 0, .int .i64 2]) bd) ∧
 (al ≠ 4294967295 →
 ((a3 : Int) = 0 →
 ∀ (b4 : World), Ext (fun b => b = ab) an b4 →
 R (.agg #[.int .u32 0, .slice none 0 0, .slice none 0 0, .int .i64 0, .int .i64 4]) b4) ∧
 ((a3 : Int) ≠ 0 →
 ∃ c1 : Addr, aa = some c1 ∧
 (0 : Int) < (a3 : Int) ∧
 ∃ (b2 : Option Addr) (bc : Nat) (b6 : Nat), an.cell? (c1.add (Int.toNat 0 * 1)) = some (.slice b2 bc b6) ∧
 (1 : Int) ≤ (a3 : Int) ∧ 
 (-9223372036854775808 : Int) ≤ ((IntKind.i64.wrap (Int.tdiv ((a0 : Int) - 2) 2)) - a7) ∧ ((IntKind.i64.wrap (Int.tdiv ((a0 : Int) - 2) 2)) - a7) < 9223372036854775808 ∧
 ∀ (b8 : World), Ext (fun b => b = ab) an b8 →
 R (.agg #[.int .u32 a1, .slice b2 bc b6, .slice (cutA aa a8 1 1) (a3 - 1) (a8 - 1), .int .i64 ((IntKind.i64.wrap (Int.tdiv ((a0 : Int) - 2) 2)) - a7), .int .i64 0]) b8)))))

theorem cachetteref11_Of.up (jt : Option Addr) (az : Nat) (ka : Nat) {R : Value → World → Prop} {w : World} (h : cachetteref11_Of.N jt az ka R w) : cachetteref11_Of.M jt az ka R w := by
  unfold cachetteref11_Of.M
  unfold cachetteref11_Of.N at h
  refine thenW_in fun l5 e2 => ?_
  have a0 := Blk.of_new e2
  have bv := ((Ext.refl no w)).size
  have kf := (Ext.refl no w).x_alloc e2
  refine bif_of (fun c3 => ?_) (fun c3 => ?_)
  · have h := h.1 (of_decide_eq_true c3)
    refine ⟨a0.cani 0 rfl rfl, thenW_in fun kt e4 => ?_⟩
    have km := kf.x_set (q := w.heap.size) (i := 0) rfl (.inr bv) e4
    have a0 : Blk kt w.heap.size 41 [.int .u32 0, .slice none 0 0, .slice none 0 0, .int .i64 0, .int .i64 0] := a0.seti 0 rfl e4
    refine ⟨a0.cani 1 rfl rfl, thenW_in fun kl e5 => ?_⟩
    have ks := km.x_set (q := w.heap.size) (i := 1) rfl (.inr bv) e5
    have a0 : Blk kl w.heap.size 41 [.int .u32 0, .slice none 0 0, .slice none 0 0, .int .i64 0, .int .i64 0] := a0.seti 1 rfl e5
    refine ⟨a0.cani 2 rfl rfl, thenW_in fun kq e6 => ?_⟩
    have kv := ks.x_set (q := w.heap.size) (i := 2) rfl (.inr bv) e6
    have a0 : Blk kq w.heap.size 41 [.int .u32 0, .slice none 0 0, .slice none 0 0, .int .i64 0, .int .i64 0] := a0.seti 2 rfl e6
    refine ⟨a0.cani 3 rfl rfl, thenW_in fun kw e7 => ?_⟩
    have l2 := kv.x_set (q := w.heap.size) (i := 3) rfl (.inr bv) e7
    have a0 : Blk kw w.heap.size 41 [.int .u32 0, .slice none 0 0, .slice none 0 0, .int .i64 0, .int .i64 0] := a0.seti 3 rfl e7
    refine ⟨a0.cani 4 rfl rfl, thenW_in fun kh e8 => ?_⟩
    have ku := l2.x_set (q := w.heap.size) (i := 4) rfl (.inr bv) e8
    have a0 : Blk kh w.heap.size 41 [.int .u32 0, .slice none 0 0, .slice none 0 0, .int .i64 0, .int .i64 1] := a0.seti 4 rfl e8
    refine ⟨0, none, 0, 0, none, 0, 0, 0, 1, ⟨a0.celli 0 rfl rfl, a0.celli 1 rfl rfl, a0.celli 2 rfl rfl, a0.celli 3 rfl rfl, a0.celli 4 rfl rfl, trivial⟩, ?_⟩
    have h := h kh ku
    exact h
  · have h := h.2 (Int.not_lt.1 (of_decide_eq_false c3))
    refine thenW_in fun ih je => ?_
    have bm := kf.x_drew je
    have a0 := a0.x_drew je
    obtain ⟨l6, ex, h⟩ := h
    refine elim_some ex ?_
    obtain ⟨ay, h⟩ := h
    refine ⟨by decide, ay, ?_⟩
    obtain ⟨j5, fa, i4, g3, h⟩ := h
    refine ⟨j5, fa, i4, (bm).cell g3 id, ?_⟩
    refine elim_some ex ?_
    obtain ⟨ay, h⟩ := h
    refine ⟨by decide, ay, ?_⟩
    obtain ⟨i8, j4, f9, gm, h⟩ := h
    refine ⟨i8, j4, f9, (bm).cell gm id, ?_⟩
    have h := h ih (w.heap.size) bm (Priv.cons bv a0.lt Priv.nil)
    refine h.mono fun l0 kn h => ?_
    obtain ⟨a2, he, hk, h⟩ := h
    refine ⟨a2, he, ?_⟩
    have a0 := hk.blk a0 (by simp)
    obtain ⟨gv, h⟩ := h
    refine ⟨gv, ?_⟩
    refine h.mono fun ko ky h => ?_
    obtain ⟨a3, he, hk, h⟩ := h
    refine ⟨a3, he, ?_⟩
    have a0 := hk.blk a0 (by simp)
    obtain ⟨ai, aj, h⟩ := h
    try rw [w64 ai aj]
    refine ⟨by decide, ?_⟩
    refine bif_of (fun ir => ?_) (fun ir => ?_)
    · have h := h.1 (beq_t ir)
      refine bif_of (fun i6 => ?_) (fun i6 => ?_)
      · have h := h.1 (beq_t i6)
        obtain ⟨ai, aj, h⟩ := h
        try rw [w64 ai aj]
        obtain ⟨b7, av, bc, h⟩ := h
        refine ⟨b7, av, by decide, bc, ?_⟩
        refine h.mono fun kr b0 h => ?_
        obtain ⟨b8, bb, ba, bu, bl, he, hk, h⟩ := h
        refine ⟨b8, bb, ba, bu, bl, he, ?_⟩
        have a0 := hk.blk a0 (by simp)
        refine bif_of (fun gl => ?_) (fun gl => ?_)
        · have h := h.1 (beq_t gl)
          have iy : Ext (fun b => b = w.heap.size) b0 b0 := ((Ext.refl no b0)).none
          refine ⟨a0.cani 0 rfl rfl, thenW_in fun iz kb => ?_⟩
          have g2 := iy.x_set (q := w.heap.size) (i := 0) rfl (.inl rfl) kb
          have a0 : Blk iz w.heap.size 41 [.int .u32 0, .slice none 0 0, .slice none 0 0, .int .i64 0, .int .i64 0] := a0.seti 0 rfl kb
          refine ⟨a0.cani 1 rfl rfl, thenW_in fun g4 jx => ?_⟩
          have ig := g2.x_set (q := w.heap.size) (i := 1) rfl (.inl rfl) jx
          have a0 : Blk g4 w.heap.size 41 [.int .u32 0, .slice none 0 0, .slice none 0 0, .int .i64 0, .int .i64 0] := a0.seti 1 rfl jx
          refine ⟨a0.cani 2 rfl rfl, thenW_in fun ft jo => ?_⟩
          have fj := ig.x_set (q := w.heap.size) (i := 2) rfl (.inl rfl) jo
          have a0 : Blk ft w.heap.size 41 [.int .u32 0, .slice none 0 0, .slice none 0 0, .int .i64 0, .int .i64 0] := a0.seti 2 rfl jo
          refine ⟨a0.cani 3 rfl rfl, thenW_in fun it ki => ?_⟩
          have ia := fj.x_set (q := w.heap.size) (i := 3) rfl (.inl rfl) ki
          have a0 : Blk it w.heap.size 41 [.int .u32 0, .slice none 0 0, .slice none 0 0, .int .i64 0, .int .i64 0] := a0.seti 3 rfl ki
          refine ⟨a0.cani 4 rfl rfl, thenW_in fun eo js => ?_⟩
          have fl := ia.x_set (q := w.heap.size) (i := 4) rfl (.inl rfl) js
          have a0 : Blk eo w.heap.size 41 [.int .u32 0, .slice none 0 0, .slice none 0 0, .int .i64 0, .int .i64 2] := a0.seti 4 rfl js
          refine ⟨0, none, 0, 0, none, 0, 0, 0, 2, ⟨a0.celli 0 rfl rfl, a0.celli 1 rfl rfl, a0.celli 2 rfl rfl, a0.celli 3 rfl rfl, a0.celli 4 rfl rfl, trivial⟩, ?_⟩
          have h := h eo fl
          exact h
        · have h := h.2 (beq_f gl)
          have fr : Ext (fun b => b = w.heap.size) b0 b0 := ((Ext.refl no b0)).none
          refine ⟨a0.cani 0 rfl rfl, thenW_in fun il jz => ?_⟩
          have j0 := fr.x_set (q := w.heap.size) (i := 0) rfl (.inl rfl) jz
          have a0 : Blk il w.heap.size 41 [.int .u32 0, .slice none 0 0, .slice none 0 0, .int .i64 0, .int .i64 0] := a0.seti 0 rfl jz
          refine ⟨a0.cani 1 rfl rfl, thenW_in fun fw k1 => ?_⟩
          have iu := j0.x_set (q := w.heap.size) (i := 1) rfl (.inl rfl) k1
          have a0 : Blk fw w.heap.size 41 [.int .u32 0, .slice none 0 0, .slice none 0 0, .int .i64 0, .int .i64 0] := a0.seti 1 rfl k1
          refine ⟨a0.cani 2 rfl rfl, thenW_in fun ib jh => ?_⟩
          have gw := iu.x_set (q := w.heap.size) (i := 2) rfl (.inl rfl) jh
          have a0 : Blk ib w.heap.size 41 [.int .u32 0, .slice none 0 0, .slice none 0 0, .int .i64 0, .int .i64 0] := a0.seti 2 rfl jh
          refine ⟨a0.cani 3 rfl rfl, thenW_in fun iq k4 => ?_⟩
          have ic := gw.x_set (q := w.heap.size) (i := 3) rfl (.inl rfl) k4
          have a0 : Blk iq w.heap.size 41 [.int .u32 0, .slice none 0 0, .slice none 0 0, .int .i64 0, .int .i64 0] := a0.seti 3 rfl k4
          refine ⟨a0.cani 4 rfl rfl, thenW_in fun d6 j9 => ?_⟩
          have gt := ic.x_set (q := w.heap.size) (i := 4) rfl (.inl rfl) j9
          have a0 : Blk d6 w.heap.size 41 [.int .u32 0, .slice none 0 0, .slice none 0 0, .int .i64 0, .int .i64 0] := a0.seti 4 rfl j9
          refine ⟨0, none, 0, 0, none, 0, 0, 0, 0, ⟨a0.celli 0 rfl rfl, a0.celli 1 rfl rfl, a0.celli 2 rfl rfl, a0.celli 3 rfl rfl, a0.celli 4 rfl rfl, trivial⟩, ?_⟩
          have h := h d6 gt
          exact h
      · have h := h.2 (beq_f i6)
        refine bif_of (fun j7 => ?_) (fun j7 => ?_)
        · have h := h.1 (of_decide_eq_true j7)
          obtain ⟨ai, aj, h⟩ := h
          try rw [w64 ai aj]
          obtain ⟨ai, aj, h⟩ := h
          try rw [w64 ai aj]
          obtain ⟨b7, av, ay, bc, h⟩ := h
          refine ⟨b7, av, ay, bc, ?_⟩
          refine h.mono fun kz aw h => ?_
          obtain ⟨ab, ae, a5, ar, bs, he, hk, h⟩ := h
          refine ⟨ab, ae, a5, ar, bs, he, ?_⟩
          have a0 := hk.blk a0 (by simp)
          refine bif_of (fun gu => ?_) (fun gu => ?_)
          · have h := h.1 (beq_t gu)
            have gq : Ext (fun b => b = w.heap.size) aw aw := ((Ext.refl no aw)).none
            refine ⟨a0.cani 0 rfl rfl, thenW_in fun fd k3 => ?_⟩
            have gx := gq.x_set (q := w.heap.size) (i := 0) rfl (.inl rfl) k3
            have a0 : Blk fd w.heap.size 41 [.int .u32 0, .slice none 0 0, .slice none 0 0, .int .i64 0, .int .i64 0] := a0.seti 0 rfl k3
            refine ⟨a0.cani 1 rfl rfl, thenW_in fun i3 k8 => ?_⟩
            have i2 := gx.x_set (q := w.heap.size) (i := 1) rfl (.inl rfl) k8
            have a0 : Blk i3 w.heap.size 41 [.int .u32 0, .slice none 0 0, .slice none 0 0, .int .i64 0, .int .i64 0] := a0.seti 1 rfl k8
            refine ⟨a0.cani 2 rfl rfl, thenW_in fun ii jj => ?_⟩
            have g6 := i2.x_set (q := w.heap.size) (i := 2) rfl (.inl rfl) jj
            have a0 : Blk ii w.heap.size 41 [.int .u32 0, .slice none 0 0, .slice none 0 0, .int .i64 0, .int .i64 0] := a0.seti 2 rfl jj
            refine ⟨a0.cani 3 rfl rfl, thenW_in fun fh jn => ?_⟩
            have fs := g6.x_set (q := w.heap.size) (i := 3) rfl (.inl rfl) jn
            have a0 : Blk fh w.heap.size 41 [.int .u32 0, .slice none 0 0, .slice none 0 0, .int .i64 0, .int .i64 0] := a0.seti 3 rfl jn
            refine ⟨a0.cani 4 rfl rfl, thenW_in fun e0 jl => ?_⟩
            have fp := fs.x_set (q := w.heap.size) (i := 4) rfl (.inl rfl) jl
            have a0 : Blk e0 w.heap.size 41 [.int .u32 0, .slice none 0 0, .slice none 0 0, .int .i64 0, .int .i64 2] := a0.seti 4 rfl jl
            refine ⟨0, none, 0, 0, none, 0, 0, 0, 2, ⟨a0.celli 0 rfl rfl, a0.celli 1 rfl rfl, a0.celli 2 rfl rfl, a0.celli 3 rfl rfl, a0.celli 4 rfl rfl, trivial⟩, ?_⟩
            have h := h e0 fp
            exact h
          · have h := h.2 (beq_f gu)
            refine bif_of (fun fm => ?_) (fun fm => ?_)
            · have h := h.1 (beq_t fm)
              have gy : Ext (fun b => b = w.heap.size) aw aw := ((Ext.refl no aw)).none
              refine ⟨a0.cani 0 rfl rfl, thenW_in fun j3 ke => ?_⟩
              have f8 := gy.x_set (q := w.heap.size) (i := 0) rfl (.inl rfl) ke
              have a0 : Blk j3 w.heap.size 41 [.int .u32 0, .slice none 0 0, .slice none 0 0, .int .i64 0, .int .i64 0] := a0.seti 0 rfl ke
              refine ⟨a0.cani 1 rfl rfl, thenW_in fun gj kg => ?_⟩
              have f6 := f8.x_set (q := w.heap.size) (i := 1) rfl (.inl rfl) kg
              have a0 : Blk gj w.heap.size 41 [.int .u32 0, .slice none 0 0, .slice none 0 0, .int .i64 0, .int .i64 0] := a0.seti 1 rfl kg
              refine ⟨a0.cani 2 rfl rfl, thenW_in fun io kd => ?_⟩
              have ik := f6.x_set (q := w.heap.size) (i := 2) rfl (.inl rfl) kd
              have a0 : Blk io w.heap.size 41 [.int .u32 0, .slice none 0 0, .slice none 0 0, .int .i64 0, .int .i64 0] := a0.seti 2 rfl kd
              refine ⟨a0.cani 3 rfl rfl, thenW_in fun fz jg => ?_⟩
              have ij := ik.x_set (q := w.heap.size) (i := 3) rfl (.inl rfl) jg
              have a0 : Blk fz w.heap.size 41 [.int .u32 0, .slice none 0 0, .slice none 0 0, .int .i64 0, .int .i64 0] := a0.seti 3 rfl jg
              refine ⟨a0.cani 4 rfl rfl, thenW_in fun dq jr => ?_⟩
              have g8 := ij.x_set (q := w.heap.size) (i := 4) rfl (.inl rfl) jr
              have a0 : Blk dq w.heap.size 41 [.int .u32 0, .slice none 0 0, .slice none 0 0, .int .i64 0, .int .i64 4] := a0.seti 4 rfl jr
              refine ⟨0, none, 0, 0, none, 0, 0, 0, 4, ⟨a0.celli 0 rfl rfl, a0.celli 1 rfl rfl, a0.celli 2 rfl rfl, a0.celli 3 rfl rfl, a0.celli 4 rfl rfl, trivial⟩, ?_⟩
              have h := h dq g8
              exact h
            · have h := h.2 (beq_f fm)
              refine thenW_in fun fy jw => ?_
              have c1 := (Ext.refl no aw).x_drew jw
              have a0 := a0.x_drew jw
              obtain ⟨l7, ff, h⟩ := h
              refine elim_some ff ?_
              obtain ⟨ay, h⟩ := h
              refine ⟨by decide, ay, ?_⟩
              obtain ⟨b3, b6, b2, i5, h⟩ := h
              refine ⟨b3, b6, b2, (c1).cell i5 id, ?_⟩
              obtain ⟨av, h⟩ := h
              refine ⟨by decide, av, ?_⟩
              obtain ⟨ai, aj, h⟩ := h
              try rw [w64 ai aj]
              have ix : Ext (fun b => b = w.heap.size) aw fy := (c1).none
              refine ⟨a0.cani 0 rfl rfl, thenW_in fun ie jv => ?_⟩
              have fq := ix.x_set (q := w.heap.size) (i := 0) rfl (.inl rfl) jv
              have a0 : Blk ie w.heap.size 41 [.int .u32 a3, .slice none 0 0, .slice none 0 0, .int .i64 0, .int .i64 0] := a0.seti 0 rfl jv
              refine ⟨a0.cani 1 rfl rfl, thenW_in fun i7 k9 => ?_⟩
              have ga := fq.x_set (q := w.heap.size) (i := 1) rfl (.inl rfl) k9
              have a0 : Blk i7 w.heap.size 41 [.int .u32 a3, .slice b3 b6 b2, .slice none 0 0, .int .i64 0, .int .i64 0] := a0.seti 1 rfl k9
              refine ⟨a0.cani 2 rfl rfl, thenW_in fun g5 ji => ?_⟩
              have ge := ga.x_set (q := w.heap.size) (i := 2) rfl (.inl rfl) ji
              have a0 : Blk g5 w.heap.size 41 [.int .u32 a3, .slice b3 b6 b2, .slice (cutA ab a5 1 1) (ae - 1) (a5 - 1), .int .i64 0, .int .i64 0] := a0.seti 2 rfl ji
              refine ⟨a0.cani 3 rfl rfl, thenW_in fun im kj => ?_⟩
              have gb := ge.x_set (q := w.heap.size) (i := 3) rfl (.inl rfl) kj
              have a0 : Blk im w.heap.size 41 [.int .u32 a3, .slice b3 b6 b2, .slice (cutA ab a5 1 1) (ae - 1) (a5 - 1), .int .i64 ((IntKind.i64.wrap (Int.tdiv ((az : Int) - 2) 2)) - ar), .int .i64 0] := a0.seti 3 rfl kj
              refine ⟨a0.cani 4 rfl rfl, thenW_in fun eq jc => ?_⟩
              have j1 := gb.x_set (q := w.heap.size) (i := 4) rfl (.inl rfl) jc
              have a0 : Blk eq w.heap.size 41 [.int .u32 a3, .slice b3 b6 b2, .slice (cutA ab a5 1 1) (ae - 1) (a5 - 1), .int .i64 ((IntKind.i64.wrap (Int.tdiv ((az : Int) - 2) 2)) - ar), .int .i64 0] := a0.seti 4 rfl jc
              refine ⟨a3, b3, b6, b2, (cutA ab a5 1 1), (ae - 1), (a5 - 1), ((IntKind.i64.wrap (Int.tdiv ((az : Int) - 2) 2)) - ar), 0, ⟨a0.celli 0 rfl rfl, a0.celli 1 rfl rfl, a0.celli 2 rfl rfl, a0.celli 3 rfl rfl, a0.celli 4 rfl rfl, trivial⟩, ?_⟩
              have h := h eq j1
              exact h
        · have h := h.2 (Int.not_lt.1 (of_decide_eq_false j7))
          obtain ⟨ai, aj, h⟩ := h
          try rw [w64 ai aj]
          obtain ⟨b7, av, bc, h⟩ := h
          refine ⟨b7, av, by decide, bc, ?_⟩
          refine h.mono fun kx ax h => ?_
          obtain ⟨ac, aa, a6, aq, bp, he, hk, h⟩ := h
          refine ⟨ac, aa, a6, aq, bp, he, ?_⟩
          have a0 := hk.blk a0 (by simp)
          refine bif_of (fun f7 => ?_) (fun f7 => ?_)
          · have h := h.1 (beq_t f7)
            have g7 : Ext (fun b => b = w.heap.size) ax ax := ((Ext.refl no ax)).none
            refine ⟨a0.cani 0 rfl rfl, thenW_in fun gh jd => ?_⟩
            have fe := g7.x_set (q := w.heap.size) (i := 0) rfl (.inl rfl) jd
            have a0 : Blk gh w.heap.size 41 [.int .u32 0, .slice none 0 0, .slice none 0 0, .int .i64 0, .int .i64 0] := a0.seti 0 rfl jd
            refine ⟨a0.cani 1 rfl rfl, thenW_in fun i0 jp => ?_⟩
            have fg := fe.x_set (q := w.heap.size) (i := 1) rfl (.inl rfl) jp
            have a0 : Blk i0 w.heap.size 41 [.int .u32 0, .slice none 0 0, .slice none 0 0, .int .i64 0, .int .i64 0] := a0.seti 1 rfl jp
            refine ⟨a0.cani 2 rfl rfl, thenW_in fun gn ja => ?_⟩
            have fu := fg.x_set (q := w.heap.size) (i := 2) rfl (.inl rfl) ja
            have a0 : Blk gn w.heap.size 41 [.int .u32 0, .slice none 0 0, .slice none 0 0, .int .i64 0, .int .i64 0] := a0.seti 2 rfl ja
            refine ⟨a0.cani 3 rfl rfl, thenW_in fun fv jb => ?_⟩
            have g9 := fu.x_set (q := w.heap.size) (i := 3) rfl (.inl rfl) jb
            have a0 : Blk fv w.heap.size 41 [.int .u32 0, .slice none 0 0, .slice none 0 0, .int .i64 0, .int .i64 0] := a0.seti 3 rfl jb
            refine ⟨a0.cani 4 rfl rfl, thenW_in fun d5 k2 => ?_⟩
            have gg := g9.x_set (q := w.heap.size) (i := 4) rfl (.inl rfl) k2
            have a0 : Blk d5 w.heap.size 41 [.int .u32 0, .slice none 0 0, .slice none 0 0, .int .i64 0, .int .i64 2] := a0.seti 4 rfl k2
            refine ⟨0, none, 0, 0, none, 0, 0, 0, 2, ⟨a0.celli 0 rfl rfl, a0.celli 1 rfl rfl, a0.celli 2 rfl rfl, a0.celli 3 rfl rfl, a0.celli 4 rfl rfl, trivial⟩, ?_⟩
            have h := h d5 gg
            exact h
          · have h := h.2 (beq_f f7)
            refine bif_of (fun gr => ?_) (fun gr => ?_)
            · have h := h.1 (beq_t gr)
              have gi : Ext (fun b => b = w.heap.size) ax ax := ((Ext.refl no ax)).none
              refine ⟨a0.cani 0 rfl rfl, thenW_in fun gf ju => ?_⟩
              have gk := gi.x_set (q := w.heap.size) (i := 0) rfl (.inl rfl) ju
              have a0 : Blk gf w.heap.size 41 [.int .u32 0, .slice none 0 0, .slice none 0 0, .int .i64 0, .int .i64 0] := a0.seti 0 rfl ju
              refine ⟨a0.cani 1 rfl rfl, thenW_in fun fb k5 => ?_⟩
              have fx := gk.x_set (q := w.heap.size) (i := 1) rfl (.inl rfl) k5
              have a0 : Blk fb w.heap.size 41 [.int .u32 0, .slice none 0 0, .slice none 0 0, .int .i64 0, .int .i64 0] := a0.seti 1 rfl k5
              refine ⟨a0.cani 2 rfl rfl, thenW_in fun gd jq => ?_⟩
              have gs := fx.x_set (q := w.heap.size) (i := 2) rfl (.inl rfl) jq
              have a0 : Blk gd w.heap.size 41 [.int .u32 0, .slice none 0 0, .slice none 0 0, .int .i64 0, .int .i64 0] := a0.seti 2 rfl jq
              refine ⟨a0.cani 3 rfl rfl, thenW_in fun gz jm => ?_⟩
              have j2 := gs.x_set (q := w.heap.size) (i := 3) rfl (.inl rfl) jm
              have a0 : Blk gz w.heap.size 41 [.int .u32 0, .slice none 0 0, .slice none 0 0, .int .i64 0, .int .i64 0] := a0.seti 3 rfl jm
              refine ⟨a0.cani 4 rfl rfl, thenW_in fun dt jy => ?_⟩
              have j8 := j2.x_set (q := w.heap.size) (i := 4) rfl (.inl rfl) jy
              have a0 : Blk dt w.heap.size 41 [.int .u32 0, .slice none 0 0, .slice none 0 0, .int .i64 0, .int .i64 4] := a0.seti 4 rfl jy
              refine ⟨0, none, 0, 0, none, 0, 0, 0, 4, ⟨a0.celli 0 rfl rfl, a0.celli 1 rfl rfl, a0.celli 2 rfl rfl, a0.celli 3 rfl rfl, a0.celli 4 rfl rfl, trivial⟩, ?_⟩
              have h := h dt j8
              exact h
            · have h := h.2 (beq_f gr)
              refine thenW_in fun i9 jf => ?_
              have em := (Ext.refl no ax).x_drew jf
              have a0 := a0.x_drew jf
              obtain ⟨l4, i1, h⟩ := h
              refine elim_some i1 ?_
              obtain ⟨ay, h⟩ := h
              refine ⟨by decide, ay, ?_⟩
              obtain ⟨b4, b1, b5, g1, h⟩ := h
              refine ⟨b4, b1, b5, (em).cell g1 id, ?_⟩
              obtain ⟨av, h⟩ := h
              refine ⟨by decide, av, ?_⟩
              obtain ⟨ai, aj, h⟩ := h
              try rw [w64 ai aj]
              have iw : Ext (fun b => b = w.heap.size) ax i9 := (em).none
              refine ⟨a0.cani 0 rfl rfl, thenW_in fun fi k0 => ?_⟩
              have j6 := iw.x_set (q := w.heap.size) (i := 0) rfl (.inl rfl) k0
              have a0 : Blk fi w.heap.size 41 [.int .u32 a2, .slice none 0 0, .slice none 0 0, .int .i64 0, .int .i64 0] := a0.seti 0 rfl k0
              refine ⟨a0.cani 1 rfl rfl, thenW_in fun gc k6 => ?_⟩
              have ip := j6.x_set (q := w.heap.size) (i := 1) rfl (.inl rfl) k6
              have a0 : Blk gc w.heap.size 41 [.int .u32 a2, .slice b4 b1 b5, .slice none 0 0, .int .i64 0, .int .i64 0] := a0.seti 1 rfl k6
              refine ⟨a0.cani 2 rfl rfl, thenW_in fun gp k7 => ?_⟩
              have fk := ip.x_set (q := w.heap.size) (i := 2) rfl (.inl rfl) k7
              have a0 : Blk gp w.heap.size 41 [.int .u32 a2, .slice b4 b1 b5, .slice (cutA ac a6 1 1) (aa - 1) (a6 - 1), .int .i64 0, .int .i64 0] := a0.seti 2 rfl k7
              refine ⟨a0.cani 3 rfl rfl, thenW_in fun iv jk => ?_⟩
              have fc := fk.x_set (q := w.heap.size) (i := 3) rfl (.inl rfl) jk
              have a0 : Blk iv w.heap.size 41 [.int .u32 a2, .slice b4 b1 b5, .slice (cutA ac a6 1 1) (aa - 1) (a6 - 1), .int .i64 ((IntKind.i64.wrap (Int.tdiv ((az : Int) - 2) 2)) - aq), .int .i64 0] := a0.seti 3 rfl jk
              refine ⟨a0.cani 4 rfl rfl, thenW_in fun ca kc => ?_⟩
              have g0 := fc.x_set (q := w.heap.size) (i := 4) rfl (.inl rfl) kc
              have a0 : Blk ca w.heap.size 41 [.int .u32 a2, .slice b4 b1 b5, .slice (cutA ac a6 1 1) (aa - 1) (a6 - 1), .int .i64 ((IntKind.i64.wrap (Int.tdiv ((az : Int) - 2) 2)) - aq), .int .i64 0] := a0.seti 4 rfl kc
              refine ⟨a2, b4, b1, b5, (cutA ac a6 1 1), (aa - 1), (a6 - 1), ((IntKind.i64.wrap (Int.tdiv ((az : Int) - 2) 2)) - aq), 0, ⟨a0.celli 0 rfl rfl, a0.celli 1 rfl rfl, a0.celli 2 rfl rfl, a0.celli 3 rfl rfl, a0.celli 4 rfl rfl, trivial⟩, ?_⟩
              have h := h ca g0
              exact h
    · have h := h.2 (beq_f ir)
      refine bif_of (fun fo => ?_) (fun fo => ?_)
      · have h := h.1 (of_decide_eq_true fo)
        obtain ⟨ai, aj, h⟩ := h
        try rw [w64 ai aj]
        obtain ⟨ai, aj, h⟩ := h
        try rw [w64 ai aj]
        obtain ⟨b7, av, ay, bc, h⟩ := h
        refine ⟨b7, av, ay, bc, ?_⟩
        refine h.mono fun l1 ag h => ?_
        obtain ⟨ad, a9, a4, au, bq, he, hk, h⟩ := h
        refine ⟨ad, a9, a4, au, bq, he, ?_⟩
        have a0 := hk.blk a0 (by simp)
        refine bif_of (fun br => ?_) (fun br => ?_)
        · have h := h.1 (beq_t br)
          have ch : Ext (fun b => b = w.heap.size) ag ag := ((Ext.refl no ag)).none
          refine ⟨a0.cani 0 rfl rfl, thenW_in fun ct cc => ?_⟩
          have d1 := ch.x_set (q := w.heap.size) (i := 0) rfl (.inl rfl) cc
          have a0 : Blk ct w.heap.size 41 [.int .u32 0, .slice none 0 0, .slice none 0 0, .int .i64 0, .int .i64 0] := a0.seti 0 rfl cc
          refine ⟨a0.cani 1 rfl rfl, thenW_in fun ea dd => ?_⟩
          have ce := d1.x_set (q := w.heap.size) (i := 1) rfl (.inl rfl) dd
          have a0 : Blk ea w.heap.size 41 [.int .u32 0, .slice none 0 0, .slice none 0 0, .int .i64 0, .int .i64 0] := a0.seti 1 rfl dd
          refine ⟨a0.cani 2 rfl rfl, thenW_in fun es dw => ?_⟩
          have dz := ce.x_set (q := w.heap.size) (i := 2) rfl (.inl rfl) dw
          have a0 : Blk es w.heap.size 41 [.int .u32 0, .slice none 0 0, .slice none 0 0, .int .i64 0, .int .i64 0] := a0.seti 2 rfl dw
          refine ⟨a0.cani 3 rfl rfl, thenW_in fun cw eh => ?_⟩
          have cp := dz.x_set (q := w.heap.size) (i := 3) rfl (.inl rfl) eh
          have a0 : Blk cw w.heap.size 41 [.int .u32 0, .slice none 0 0, .slice none 0 0, .int .i64 0, .int .i64 0] := a0.seti 3 rfl eh
          refine ⟨a0.cani 4 rfl rfl, thenW_in fun bf di => ?_⟩
          have dg := cp.x_set (q := w.heap.size) (i := 4) rfl (.inl rfl) di
          have a0 : Blk bf w.heap.size 41 [.int .u32 0, .slice none 0 0, .slice none 0 0, .int .i64 0, .int .i64 2] := a0.seti 4 rfl di
          refine ⟨0, none, 0, 0, none, 0, 0, 0, 2, ⟨a0.celli 0 rfl rfl, a0.celli 1 rfl rfl, a0.celli 2 rfl rfl, a0.celli 3 rfl rfl, a0.celli 4 rfl rfl, trivial⟩, ?_⟩
          have h := h bf dg
          exact h
        · have h := h.2 (beq_f br)
          refine bif_of (fun bo => ?_) (fun bo => ?_)
          · have h := h.1 (beq_t bo)
            have cq : Ext (fun b => b = w.heap.size) ag ag := ((Ext.refl no ag)).none
            refine ⟨a0.cani 0 rfl rfl, thenW_in fun en dl => ?_⟩
            have bz := cq.x_set (q := w.heap.size) (i := 0) rfl (.inl rfl) dl
            have a0 : Blk en w.heap.size 41 [.int .u32 0, .slice none 0 0, .slice none 0 0, .int .i64 0, .int .i64 0] := a0.seti 0 rfl dl
            refine ⟨a0.cani 1 rfl rfl, thenW_in fun f2 db => ?_⟩
            have ck := bz.x_set (q := w.heap.size) (i := 1) rfl (.inl rfl) db
            have a0 : Blk f2 w.heap.size 41 [.int .u32 0, .slice none 0 0, .slice none 0 0, .int .i64 0, .int .i64 0] := a0.seti 1 rfl db
            refine ⟨a0.cani 2 rfl rfl, thenW_in fun c9 d9 => ?_⟩
            have f1 := ck.x_set (q := w.heap.size) (i := 2) rfl (.inl rfl) d9
            have a0 : Blk c9 w.heap.size 41 [.int .u32 0, .slice none 0 0, .slice none 0 0, .int .i64 0, .int .i64 0] := a0.seti 2 rfl d9
            refine ⟨a0.cani 3 rfl rfl, thenW_in fun cx dv => ?_⟩
            have c8 := f1.x_set (q := w.heap.size) (i := 3) rfl (.inl rfl) dv
            have a0 : Blk cx w.heap.size 41 [.int .u32 0, .slice none 0 0, .slice none 0 0, .int .i64 0, .int .i64 0] := a0.seti 3 rfl dv
            refine ⟨a0.cani 4 rfl rfl, thenW_in fun bk ci => ?_⟩
            have cm := c8.x_set (q := w.heap.size) (i := 4) rfl (.inl rfl) ci
            have a0 : Blk bk w.heap.size 41 [.int .u32 0, .slice none 0 0, .slice none 0 0, .int .i64 0, .int .i64 4] := a0.seti 4 rfl ci
            refine ⟨0, none, 0, 0, none, 0, 0, 0, 4, ⟨a0.celli 0 rfl rfl, a0.celli 1 rfl rfl, a0.celli 2 rfl rfl, a0.celli 3 rfl rfl, a0.celli 4 rfl rfl, trivial⟩, ?_⟩
            have h := h bk cm
            exact h
          · have h := h.2 (beq_f bo)
            refine thenW_in fun eu cj => ?_
            have bd := (Ext.refl no ag).x_drew cj
            have a0 := a0.x_drew cj
            obtain ⟨kp, eb, h⟩ := h
            refine elim_some eb ?_
            obtain ⟨ay, h⟩ := h
            refine ⟨by decide, ay, ?_⟩
            obtain ⟨am, ap, al, cb, h⟩ := h
            refine ⟨am, ap, al, (bd).cell cb id, ?_⟩
            obtain ⟨av, h⟩ := h
            refine ⟨by decide, av, ?_⟩
            obtain ⟨ai, aj, h⟩ := h
            try rw [w64 ai aj]
            have f5 : Ext (fun b => b = w.heap.size) ag eu := (bd).none
            refine ⟨a0.cani 0 rfl rfl, thenW_in fun cl dm => ?_⟩
            have dr := f5.x_set (q := w.heap.size) (i := 0) rfl (.inl rfl) dm
            have a0 : Blk cl w.heap.size 41 [.int .u32 a3, .slice none 0 0, .slice none 0 0, .int .i64 0, .int .i64 0] := a0.seti 0 rfl dm
            refine ⟨a0.cani 1 rfl rfl, thenW_in fun cn c6 => ?_⟩
            have ec := dr.x_set (q := w.heap.size) (i := 1) rfl (.inl rfl) c6
            have a0 : Blk cn w.heap.size 41 [.int .u32 a3, .slice am ap al, .slice none 0 0, .int .i64 0, .int .i64 0] := a0.seti 1 rfl c6
            refine ⟨a0.cani 2 rfl rfl, thenW_in fun dx e3 => ?_⟩
            have d8 := ec.x_set (q := w.heap.size) (i := 2) rfl (.inl rfl) e3
            have a0 : Blk dx w.heap.size 41 [.int .u32 a3, .slice am ap al, .slice (cutA ad a4 1 1) (a9 - 1) (a4 - 1), .int .i64 0, .int .i64 0] := a0.seti 2 rfl e3
            refine ⟨a0.cani 3 rfl rfl, thenW_in fun d3 dn => ?_⟩
            have da := d8.x_set (q := w.heap.size) (i := 3) rfl (.inl rfl) dn
            have a0 : Blk d3 w.heap.size 41 [.int .u32 a3, .slice am ap al, .slice (cutA ad a4 1 1) (a9 - 1) (a4 - 1), .int .i64 ((IntKind.i64.wrap (Int.tdiv ((az : Int) - 2) 2)) - au), .int .i64 0] := a0.seti 3 rfl dn
            refine ⟨a0.cani 4 rfl rfl, thenW_in fun be cg => ?_⟩
            have dy := da.x_set (q := w.heap.size) (i := 4) rfl (.inl rfl) cg
            have a0 : Blk be w.heap.size 41 [.int .u32 a3, .slice am ap al, .slice (cutA ad a4 1 1) (a9 - 1) (a4 - 1), .int .i64 ((IntKind.i64.wrap (Int.tdiv ((az : Int) - 2) 2)) - au), .int .i64 0] := a0.seti 4 rfl cg
            refine ⟨a3, am, ap, al, (cutA ad a4 1 1), (a9 - 1), (a4 - 1), ((IntKind.i64.wrap (Int.tdiv ((az : Int) - 2) 2)) - au), 0, ⟨a0.celli 0 rfl rfl, a0.celli 1 rfl rfl, a0.celli 2 rfl rfl, a0.celli 3 rfl rfl, a0.celli 4 rfl rfl, trivial⟩, ?_⟩
            have h := h be dy
            exact h
      · have h := h.2 (Int.not_lt.1 (of_decide_eq_false fo))
        obtain ⟨ai, aj, h⟩ := h
        try rw [w64 ai aj]
        obtain ⟨b7, av, bc, h⟩ := h
        refine ⟨b7, av, by decide, bc, ?_⟩
        refine h.mono fun kk af h => ?_
        obtain ⟨a8, a7, a1, ah, b9, he, hk, h⟩ := h
        refine ⟨a8, a7, a1, ah, b9, he, ?_⟩
        have a0 := hk.blk a0 (by simp)
        refine bif_of (fun bt => ?_) (fun bt => ?_)
        · have h := h.1 (beq_t bt)
          have de : Ext (fun b => b = w.heap.size) af af := ((Ext.refl no af)).none
          refine ⟨a0.cani 0 rfl rfl, thenW_in fun c0 ep => ?_⟩
          have bx := de.x_set (q := w.heap.size) (i := 0) rfl (.inl rfl) ep
          have a0 : Blk c0 w.heap.size 41 [.int .u32 0, .slice none 0 0, .slice none 0 0, .int .i64 0, .int .i64 0] := a0.seti 0 rfl ep
          refine ⟨a0.cani 1 rfl rfl, thenW_in fun ed dc => ?_⟩
          have c4 := bx.x_set (q := w.heap.size) (i := 1) rfl (.inl rfl) dc
          have a0 : Blk ed w.heap.size 41 [.int .u32 0, .slice none 0 0, .slice none 0 0, .int .i64 0, .int .i64 0] := a0.seti 1 rfl dc
          refine ⟨a0.cani 2 rfl rfl, thenW_in fun ev d0 => ?_⟩
          have eg := c4.x_set (q := w.heap.size) (i := 2) rfl (.inl rfl) d0
          have a0 : Blk ev w.heap.size 41 [.int .u32 0, .slice none 0 0, .slice none 0 0, .int .i64 0, .int .i64 0] := a0.seti 2 rfl d0
          refine ⟨a0.cani 3 rfl rfl, thenW_in fun cd bw => ?_⟩
          have e1 := eg.x_set (q := w.heap.size) (i := 3) rfl (.inl rfl) bw
          have a0 : Blk cd w.heap.size 41 [.int .u32 0, .slice none 0 0, .slice none 0 0, .int .i64 0, .int .i64 0] := a0.seti 3 rfl bw
          refine ⟨a0.cani 4 rfl rfl, thenW_in fun bi f0 => ?_⟩
          have ez := e1.x_set (q := w.heap.size) (i := 4) rfl (.inl rfl) f0
          have a0 : Blk bi w.heap.size 41 [.int .u32 0, .slice none 0 0, .slice none 0 0, .int .i64 0, .int .i64 2] := a0.seti 4 rfl f0
          refine ⟨0, none, 0, 0, none, 0, 0, 0, 2, ⟨a0.celli 0 rfl rfl, a0.celli 1 rfl rfl, a0.celli 2 rfl rfl, a0.celli 3 rfl rfl, a0.celli 4 rfl rfl, trivial⟩, ?_⟩
          have h := h bi ez
          exact h
        · have h := h.2 (beq_f bt)
          refine bif_of (fun bn => ?_) (fun bn => ?_)
          · have h := h.1 (beq_t bn)
            have cr : Ext (fun b => b = w.heap.size) af af := ((Ext.refl no af)).none
            refine ⟨a0.cani 0 rfl rfl, thenW_in fun d4 co => ?_⟩
            have ew := cr.x_set (q := w.heap.size) (i := 0) rfl (.inl rfl) co
            have a0 : Blk d4 w.heap.size 41 [.int .u32 0, .slice none 0 0, .slice none 0 0, .int .i64 0, .int .i64 0] := a0.seti 0 rfl co
            refine ⟨a0.cani 1 rfl rfl, thenW_in fun er cy => ?_⟩
            have ej := ew.x_set (q := w.heap.size) (i := 1) rfl (.inl rfl) cy
            have a0 : Blk er w.heap.size 41 [.int .u32 0, .slice none 0 0, .slice none 0 0, .int .i64 0, .int .i64 0] := a0.seti 1 rfl cy
            refine ⟨a0.cani 2 rfl rfl, thenW_in fun dj dp => ?_⟩
            have ds := ej.x_set (q := w.heap.size) (i := 2) rfl (.inl rfl) dp
            have a0 : Blk dj w.heap.size 41 [.int .u32 0, .slice none 0 0, .slice none 0 0, .int .i64 0, .int .i64 0] := a0.seti 2 rfl dp
            refine ⟨a0.cani 3 rfl rfl, thenW_in fun du cs => ?_⟩
            have c5 := ds.x_set (q := w.heap.size) (i := 3) rfl (.inl rfl) cs
            have a0 : Blk du w.heap.size 41 [.int .u32 0, .slice none 0 0, .slice none 0 0, .int .i64 0, .int .i64 0] := a0.seti 3 rfl cs
            refine ⟨a0.cani 4 rfl rfl, thenW_in fun bj d2 => ?_⟩
            have df := c5.x_set (q := w.heap.size) (i := 4) rfl (.inl rfl) d2
            have a0 : Blk bj w.heap.size 41 [.int .u32 0, .slice none 0 0, .slice none 0 0, .int .i64 0, .int .i64 4] := a0.seti 4 rfl d2
            refine ⟨0, none, 0, 0, none, 0, 0, 0, 4, ⟨a0.celli 0 rfl rfl, a0.celli 1 rfl rfl, a0.celli 2 rfl rfl, a0.celli 3 rfl rfl, a0.celli 4 rfl rfl, trivial⟩, ?_⟩
            have h := h bj df
            exact h
          · have h := h.2 (beq_f bn)
            refine thenW_in fun ee ei => ?_
            have bg := (Ext.refl no af).x_drew ei
            have a0 := a0.x_drew ei
            obtain ⟨l3, ek, h⟩ := h
            refine elim_some ek ?_
            obtain ⟨ay, h⟩ := h
            refine ⟨by decide, ay, ?_⟩
            obtain ⟨ao, an, ak, cz, h⟩ := h
            refine ⟨ao, an, ak, (bg).cell cz id, ?_⟩
            obtain ⟨av, h⟩ := h
            refine ⟨by decide, av, ?_⟩
            obtain ⟨ai, aj, h⟩ := h
            try rw [w64 ai aj]
            have e9 : Ext (fun b => b = w.heap.size) af ee := (bg).none
            refine ⟨a0.cani 0 rfl rfl, thenW_in fun d7 f3 => ?_⟩
            have cu := e9.x_set (q := w.heap.size) (i := 0) rfl (.inl rfl) f3
            have a0 : Blk d7 w.heap.size 41 [.int .u32 a2, .slice none 0 0, .slice none 0 0, .int .i64 0, .int .i64 0] := a0.seti 0 rfl f3
            refine ⟨a0.cani 1 rfl rfl, thenW_in fun ef dk => ?_⟩
            have el := cu.x_set (q := w.heap.size) (i := 1) rfl (.inl rfl) dk
            have a0 : Blk ef w.heap.size 41 [.int .u32 a2, .slice ao an ak, .slice none 0 0, .int .i64 0, .int .i64 0] := a0.seti 1 rfl dk
            refine ⟨a0.cani 2 rfl rfl, thenW_in fun ey f4 => ?_⟩
            have c7 := el.x_set (q := w.heap.size) (i := 2) rfl (.inl rfl) f4
            have a0 : Blk ey w.heap.size 41 [.int .u32 a2, .slice ao an ak, .slice (cutA a8 a1 1 1) (a7 - 1) (a1 - 1), .int .i64 0, .int .i64 0] := a0.seti 2 rfl f4
            refine ⟨a0.cani 3 rfl rfl, thenW_in fun et cv => ?_⟩
            have cf := c7.x_set (q := w.heap.size) (i := 3) rfl (.inl rfl) cv
            have a0 : Blk et w.heap.size 41 [.int .u32 a2, .slice ao an ak, .slice (cutA a8 a1 1 1) (a7 - 1) (a1 - 1), .int .i64 ((IntKind.i64.wrap (Int.tdiv ((az : Int) - 2) 2)) - ah), .int .i64 0] := a0.seti 3 rfl cv
            refine ⟨a0.cani 4 rfl rfl, thenW_in fun bh c2 => ?_⟩
            have dh := cf.x_set (q := w.heap.size) (i := 4) rfl (.inl rfl) c2
            have a0 : Blk bh w.heap.size 41 [.int .u32 a2, .slice ao an ak, .slice (cutA a8 a1 1 1) (a7 - 1) (a1 - 1), .int .i64 ((IntKind.i64.wrap (Int.tdiv ((az : Int) - 2) 2)) - ah), .int .i64 0] := a0.seti 4 rfl c2
            refine ⟨a2, ao, an, ak, (cutA a8 a1 1 1), (a7 - 1), (a1 - 1), ((IntKind.i64.wrap (Int.tdiv ((az : Int) - 2) 2)) - ah), 0, ⟨a0.celli 0 rfl rfl, a0.celli 1 rfl rfl, a0.celli 2 rfl rfl, a0.celli 3 rfl rfl, a0.celli 4 rfl rfl, trivial⟩, ?_⟩
            have h := h bh dh
            exact h

theorem cachetteref11_Of.go (a1 : Option Addr) (a2 : Nat) (a0 : Nat) {R : Value → World → Prop} {w : World} (h : cachetteref11_Of.N a1 a2 a0 R w) : Calls Try.prog 12 #[.slice a1 a2 a0] w fun e w' => ∃ v, e = .returned v ∧ R v w' := cachetteref11_Of.ok a1 a2 a0 (cachetteref11_Of.up a1 a2 a0 h)
end Go.Proofs.Ytidijnfkcpbkiaa

