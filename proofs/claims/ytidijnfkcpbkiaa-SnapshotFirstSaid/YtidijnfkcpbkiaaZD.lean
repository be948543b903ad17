/- Snapshot: predicates. -/
import Derived.Test.YtidijnfkcpbkiaaZC
set_option linter.unusedVariables false
set_option linter.unusedSimpArgs false
set_option maxRecDepth 100000
set_option maxHeartbeats 4000000
namespace Go.Proofs.Ytidijnfkcpbkiaa
open Go Go.Mx Go.Proofs
/-- snapshot.which -/
def snapshot_which.M (n1 : Int) (R : Value → World → Prop) (w : World) : Prop :=
 R (.int .i64 (IntKind.i64.wrap ((BitVec.ofInt (IntKind.bits .i64) (IntKind.i64.wrap (IntKind.u32.wrap (n1 + 1))) &&& BitVec.ofInt (IntKind.bits .i64) 1).toNat))) w

theorem snapshot_which.eq (n1 : Int) (R : Value → World → Prop) (w : World) : mfunc Try.prog [] 35 [.int .u32 n1] R w = snapshot_which.M n1 R w := by kernel_rfl
theorem snapshot_which.ok (n1 : Int) {R : Value → World → Prop} {w : World} (h : snapshot_which.M n1 R w) : Calls Try.prog 35 #[.int .u32 n1] w fun e w' => ∃ v, e = .returned v ∧ R v w' :=
  mfunc_ok follows (H := []) (args := [.int .u32 n1]) (by rw [snapshot_which.eq]; exact h)

def snapshot_which.N (n1 : Int) (R : Value → World → Prop) (w : World) : Prop :=
 (-9223372036854775808 : Int) ≤ (IntKind.u32.wrap (n1 + 1)) ∧ (IntKind.u32.wrap (n1 + 1)) < 9223372036854775808 ∧
 R (.int .i64 (IntKind.i64.wrap ((BitVec.ofInt (IntKind.bits .i64) (IntKind.u32.wrap (n1 + 1)) &&& BitVec.ofInt (IntKind.bits .i64) 1).toNat))) w

theorem snapshot_which.up (n1 : Int) {R : Value → World → Prop} {w : World} (h : snapshot_which.N n1 R w) : snapshot_which.M n1 R w := by
  unfold snapshot_which.M
  unfold snapshot_which.N at h
  obtain ⟨a1, a0, h⟩ := h
  try rw [w64 a1 a0]
  exact h

theorem snapshot_which.go (n1 : Int) {R : Value → World → Prop} {w : World} (h : snapshot_which.N n1 R w) : Calls Try.prog 35 #[.int .u32 n1] w fun e w' => ∃ v, e = .returned v ∧ R v w' := snapshot_which.ok n1 (snapshot_which.up n1 h)
theorem snapshot_which.run (n1 : Int) {V : Value} {Q : World → Prop} {w : World} (h : snapshot_which.N n1 (fun v w' => v = V ∧ Q w') w) : Calls Try.prog 35 #[.int .u32 n1] w (Ret V Q) := (snapshot_which.go n1 h).mono fun e w' ⟨v, he, hv, hq⟩ => ⟨by rw [he, hv], hq⟩

/-- snapshot.head -/
def snapshot_head.M (n1 : Int) (R : Value → World → Prop) (w : World) : Prop :=
 ∃ (a1 : Option Addr) (a2 : Nat) (af : Nat) (ah : World), (Instr.makeSlice 30 (.int .i64 64) (.int .i64 64)).run Try.prog w = .ok (.slice a1 a2 af) ah ∧
 ∃ (I0 : Nat → List Value → World → Prop) (m5 : Nat), I0 m5 [.int .i64 0] ah ∧ ∀ (m6 : Nat) (a0 : World) (t4 : Int), I0 m6 [.int .i64 t4] a0 →
 bif decide (t4 < 4) then (
 0 ≤ (t4 : Int) ∧ (t4 : Int) < (4 : Int) ∧
 ((t4 : Int) = 0 → 
 0 ≤ (24 : Int) ∧
 a1.elim False fun a8 =>
 0 ≤ ((IntKind.i64.wrap ((1 : Int) + t4)) : Int) ∧ ((IntKind.i64.wrap ((1 : Int) + t4)) : Int) < (a2 : Int) ∧
 canStore a0 ((a8.add (Int.toNat (IntKind.i64.wrap ((1 : Int) + t4)) * 1)).add 0) ∧
 thenW (a0.setCell ((a8.add (Int.toNat (IntKind.i64.wrap ((1 : Int) + t4)) * 1)).add 0) (.int .u8 (IntKind.u8.wrap (Int.fdiv n1 (2 ^ (min (Int.toNat 24) (IntKind.bits .u32))))))) fun ai =>
 ∃ a7, a7 < m6 ∧ I0 a7 [.int .i64 (IntKind.i64.wrap (t4 + 1))] ai) ∧
 ((t4 : Int) = 1 → 
 0 ≤ (16 : Int) ∧
 a1.elim False fun ad =>
 0 ≤ ((IntKind.i64.wrap ((1 : Int) + t4)) : Int) ∧ ((IntKind.i64.wrap ((1 : Int) + t4)) : Int) < (a2 : Int) ∧
 canStore a0 ((ad.add (Int.toNat (IntKind.i64.wrap ((1 : Int) + t4)) * 1)).add 0) ∧
 thenW (a0.setCell ((ad.add (Int.toNat (IntKind.i64.wrap ((1 : Int) + t4)) * 1)).add 0) (.int .u8 (IntKind.u8.wrap (Int.fdiv n1 (2 ^ (min (Int.toNat 16) (IntKind.bits .u32))))))) fun a4 =>
 ∃ a9, a9 < m6 ∧ I0 a9 [.int .i64 (IntKind.i64.wrap (t4 + 1))] a4) ∧
 ((t4 : Int) = 2 → 
 0 ≤ (8 : Int) ∧
 a1.elim False fun ac =>
 0 ≤ ((IntKind.i64.wrap ((1 : Int) + t4)) : Int) ∧ ((IntKind.i64.wrap ((1 : Int) + t4)) : Int) < (a2 : Int) ∧
 canStore a0 ((ac.add (Int.toNat (IntKind.i64.wrap ((1 : Int) + t4)) * 1)).add 0) ∧
 thenW (a0.setCell ((ac.add (Int.toNat (IntKind.i64.wrap ((1 : Int) + t4)) * 1)).add 0) (.int .u8 (IntKind.u8.wrap (Int.fdiv n1 (2 ^ (min (Int.toNat 8) (IntKind.bits .u32))))))) fun a3 =>
 ∃ ag, ag < m6 ∧ I0 ag [.int .i64 (IntKind.i64.wrap (t4 + 1))] a3) ∧
 ((t4 : Int) = 3 → 
 0 ≤ (0 : Int) ∧
 a1.elim False fun aa =>
 0 ≤ ((IntKind.i64.wrap ((1 : Int) + t4)) : Int) ∧ ((IntKind.i64.wrap ((1 : Int) + t4)) : Int) < (a2 : Int) ∧
 canStore a0 ((aa.add (Int.toNat (IntKind.i64.wrap ((1 : Int) + t4)) * 1)).add 0) ∧
 thenW (a0.setCell ((aa.add (Int.toNat (IntKind.i64.wrap ((1 : Int) + t4)) * 1)).add 0) (.int .u8 (IntKind.u8.wrap (Int.fdiv n1 (2 ^ (min (Int.toNat 0) (IntKind.bits .u32))))))) fun a6 =>
 ∃ ab, ab < m6 ∧ I0 ab [.int .i64 (IntKind.i64.wrap (t4 + 1))] a6) ∧ True) else (
 a1.elim False fun ae =>
 0 ≤ (0 : Int) ∧ (0 : Int) < (a2 : Int) ∧
 canStore a0 ((ae.add (Int.toNat 0 * 1)).add 0) ∧
 thenW (a0.setCell ((ae.add (Int.toNat 0 * 1)).add 0) (.int .u8 94)) fun a5 =>
 R (.slice a1 a2 af) a5)

theorem snapshot_head.eq (n1 : Int) (R : Value → World → Prop) (w : World) : mfunc Try.prog [(0, [0, 3, 7], [(8, (.one (.int .i64)))])] 36 [.int .u32 n1] R w = snapshot_head.M n1 R w := by kernel_rfl
theorem snapshot_head.ok (n1 : Int) {R : Value → World → Prop} {w : World} (h : snapshot_head.M n1 R w) : Calls Try.prog 36 #[.int .u32 n1] w fun e w' => ∃ v, e = .returned v ∧ R v w' :=
  mfunc_ok follows (H := [(0, [0, 3, 7], [(8, (.one (.int .i64)))])]) (args := [.int .u32 n1]) (by rw [snapshot_head.eq]; exact h)

def snapshot_head.N (n1 : Int) (R : Value → World → Prop) (w : World) : Prop :=
 ∃ (a1 : Option Addr) (a2 : Nat) (ah : Nat) (ag : World), (Instr.makeSlice 30 (.int .i64 64) (.int .i64 64)).run Try.prog w = .ok (.slice a1 a2 ah) ag ∧
 ∃ (I0 : Nat → List Value → World → Prop) (m5 : Nat), I0 m5 [.int .i64 0] ag ∧ ∀ (m6 : Nat) (a0 : World) (t4 : Int), I0 m6 [.int .i64 t4] a0 →
 (t4 < 4 →
 0 ≤ (t4 : Int) ∧ (t4 : Int) < (4 : Int) ∧
 ((t4 : Int) = 0 →
 (-9223372036854775808 : Int) ≤ ((1 : Int) + t4) ∧ ((1 : Int) + t4) < 9223372036854775808 ∧
 ∃ a9 : Addr, a1 = some a9 ∧
 0 ≤ (((1 : Int) + t4) : Int) ∧ (((1 : Int) + t4) : Int) < (a2 : Int) ∧
 canStore a0 ((a9.add (Int.toNat ((1 : Int) + t4) * 1)).add 0) ∧
 thenW (a0.setCell ((a9.add (Int.toNat ((1 : Int) + t4) * 1)).add 0) (.int .u8 (IntKind.u8.wrap (n1 / 16777216)))) fun a5 =>
 (-9223372036854775808 : Int) ≤ (t4 + 1) ∧ (t4 + 1) < 9223372036854775808 ∧
 ∃ ai, ai < m6 ∧ I0 ai [.int .i64 (t4 + 1)] a5) ∧
 ((t4 : Int) = 1 →
 (-9223372036854775808 : Int) ≤ ((1 : Int) + t4) ∧ ((1 : Int) + t4) < 9223372036854775808 ∧
 ∃ a3 : Addr, a1 = some a3 ∧
 0 ≤ (((1 : Int) + t4) : Int) ∧ (((1 : Int) + t4) : Int) < (a2 : Int) ∧
 canStore a0 ((a3.add (Int.toNat ((1 : Int) + t4) * 1)).add 0) ∧
 thenW (a0.setCell ((a3.add (Int.toNat ((1 : Int) + t4) * 1)).add 0) (.int .u8 (IntKind.u8.wrap (n1 / 65536)))) fun a8 =>
 (-9223372036854775808 : Int) ≤ (t4 + 1) ∧ (t4 + 1) < 9223372036854775808 ∧
 ∃ af, af < m6 ∧ I0 af [.int .i64 (t4 + 1)] a8) ∧
 ((t4 : Int) = 2 →
 (-9223372036854775808 : Int) ≤ ((1 : Int) + t4) ∧ ((1 : Int) + t4) < 9223372036854775808 ∧
 ∃ aa : Addr, a1 = some aa ∧
 0 ≤ (((1 : Int) + t4) : Int) ∧ (((1 : Int) + t4) : Int) < (a2 : Int) ∧
 canStore a0 ((aa.add (Int.toNat ((1 : Int) + t4) * 1)).add 0) ∧
 thenW (a0.setCell ((aa.add (Int.toNat ((1 : Int) + t4) * 1)).add 0) (.int .u8 (IntKind.u8.wrap (n1 / 256)))) fun a7 =>
 (-9223372036854775808 : Int) ≤ (t4 + 1) ∧ (t4 + 1) < 9223372036854775808 ∧
 ∃ ae, ae < m6 ∧ I0 ae [.int .i64 (t4 + 1)] a7) ∧
 ((t4 : Int) = 3 →
 (-9223372036854775808 : Int) ≤ ((1 : Int) + t4) ∧ ((1 : Int) + t4) < 9223372036854775808 ∧
 ∃ a4 : Addr, a1 = some a4 ∧
 0 ≤ (((1 : Int) + t4) : Int) ∧ (((1 : Int) + t4) : Int) < (a2 : Int) ∧
 canStore a0 ((a4.add (Int.toNat ((1 : Int) + t4) * 1)).add 0) ∧
 thenW (a0.setCell ((a4.add (Int.toNat ((1 : Int) + t4) * 1)).add 0) (.int .u8 (IntKind.u8.wrap (n1 / 1)))) fun a6 =>
 (-9223372036854775808 : Int) ≤ (t4 + 1) ∧ (t4 + 1) < 9223372036854775808 ∧
 ∃ ad, ad < m6 ∧ I0 ad [.int .i64 (t4 + 1)] a6)) ∧
 ((4 : Int) ≤ t4 →
 ∃ ab : Addr, a1 = some ab ∧
 (0 : Int) < (a2 : Int) ∧
 canStore a0 ((ab.add (Int.toNat 0 * 1)).add 0) ∧
 thenW (a0.setCell ((ab.add (Int.toNat 0 * 1)).add 0) (.int .u8 94)) fun ac =>
 R (.slice a1 a2 ah) ac)

theorem snapshot_head.up (n1 : Int) {R : Value → World → Prop} {w : World} (h : snapshot_head.N n1 R w) : snapshot_head.M n1 R w := by
  unfold snapshot_head.M
  unfold snapshot_head.N at h
  obtain ⟨aq, al, ap, aj, hr, h⟩ := h
  refine ⟨aq, al, ap, aj, hr, ?_⟩
  obtain ⟨I0, m5, h0, h⟩ := h
  refine ⟨I0, m5, h0, fun m6 au t4 hI => ?_⟩
  have h := h m6 au t4 hI
  refine bif_of (fun c8 => ?_) (fun c8 => ?_)
  · have h := h.1 (of_decide_eq_true c8)
    obtain ⟨a3, a2, h⟩ := h
    refine ⟨a3, a2, ?_⟩
    refine ⟨fun hk => ?_, fun hk => ?_, fun hk => ?_, fun hk => ?_, trivial⟩
    · have h := h.1 hk
      obtain ⟨a0, a1, h⟩ := h
      try rw [w64 a0 a1]
      refine ⟨by decide, ?_⟩
      try rw [show (2 ^ (min (Int.toNat 24) (IntKind.bits .u32)) : Int) = 16777216 from rfl]
      try rw [Int.fdiv_eq_ediv_of_nonneg n1 (by decide : (0 : Int) ≤ 16777216)]
      obtain ⟨a9, aa, h⟩ := h
      refine elim_some aa ?_
      obtain ⟨a3, a2, h⟩ := h
      refine ⟨a3, a2, ?_⟩
      obtain ⟨hcs, h⟩ := h
      refine ⟨hcs, thenW_in fun ab ar => ?_⟩
      replace h := thenW_out h ar
      obtain ⟨a0, a1, h⟩ := h
      try rw [w64 a0 a1]
      obtain ⟨ae, hk, h⟩ := h
      exact ⟨ae, hk, h⟩
    · have h := h.2.1 hk
      obtain ⟨a0, a1, h⟩ := h
      try rw [w64 a0 a1]
      refine ⟨by decide, ?_⟩
      try rw [show (2 ^ (min (Int.toNat 16) (IntKind.bits .u32)) : Int) = 65536 from rfl]
      try rw [Int.fdiv_eq_ediv_of_nonneg n1 (by decide : (0 : Int) ≤ 65536)]
      obtain ⟨ay, a6, h⟩ := h
      refine elim_some a6 ?_
      obtain ⟨a3, a2, h⟩ := h
      refine ⟨a3, a2, ?_⟩
      obtain ⟨hcs, h⟩ := h
      refine ⟨hcs, thenW_in fun an ai => ?_⟩
      replace h := thenW_out h ai
      obtain ⟨a0, a1, h⟩ := h
      try rw [w64 a0 a1]
      obtain ⟨af, hk, h⟩ := h
      exact ⟨af, hk, h⟩
    · have h := h.2.2.1 hk
      obtain ⟨a0, a1, h⟩ := h
      try rw [w64 a0 a1]
      refine ⟨by decide, ?_⟩
      try rw [show (2 ^ (min (Int.toNat 8) (IntKind.bits .u32)) : Int) = 256 from rfl]
      try rw [Int.fdiv_eq_ediv_of_nonneg n1 (by decide : (0 : Int) ≤ 256)]
      obtain ⟨av, a5, h⟩ := h
      refine elim_some a5 ?_
      obtain ⟨a3, a2, h⟩ := h
      refine ⟨a3, a2, ?_⟩
      obtain ⟨hcs, h⟩ := h
      refine ⟨hcs, thenW_in fun am ak => ?_⟩
      replace h := thenW_out h ak
      obtain ⟨a0, a1, h⟩ := h
      try rw [w64 a0 a1]
      obtain ⟨ao, hk, h⟩ := h
      exact ⟨ao, hk, h⟩
    · have h := h.2.2.2 hk
      obtain ⟨a0, a1, h⟩ := h
      try rw [w64 a0 a1]
      refine ⟨by decide, ?_⟩
      try rw [show (2 ^ (min (Int.toNat 0) (IntKind.bits .u32)) : Int) = 1 from rfl]
      try rw [Int.fdiv_eq_ediv_of_nonneg n1 (by decide : (0 : Int) ≤ 1)]
      obtain ⟨aw, a4, h⟩ := h
      refine elim_some a4 ?_
      obtain ⟨a3, a2, h⟩ := h
      refine ⟨a3, a2, ?_⟩
      obtain ⟨hcs, h⟩ := h
      refine ⟨hcs, thenW_in fun ac ag => ?_⟩
      replace h := thenW_out h ag
      obtain ⟨a0, a1, h⟩ := h
      try rw [w64 a0 a1]
      obtain ⟨a8, hk, h⟩ := h
      exact ⟨a8, hk, h⟩
  · have h := h.2 (Int.not_lt.1 (of_decide_eq_false c8))
    obtain ⟨ax, a7, h⟩ := h
    refine elim_some a7 ?_
    obtain ⟨a2, h⟩ := h
    refine ⟨by decide, a2, ?_⟩
    obtain ⟨hcs, h⟩ := h
    refine ⟨hcs, thenW_in fun ah ad => ?_⟩
    replace h := thenW_out h ad
    exact h

theorem snapshot_head.go (n1 : Int) {R : Value → World → Prop} {w : World} (h : snapshot_head.N n1 R w) : Calls Try.prog 36 #[.int .u32 n1] w fun e w' => ∃ v, e = .returned v ∧ R v w' := snapshot_head.ok n1 (snapshot_head.up n1 h)
/-- slices.Equal[[]byte,byte] -/
def slices_Equal_byte_byte.M (a6 : Option Addr) (a1 : Nat) (ab : Nat) (a9 : Option Addr) (a4 : Nat) (aa : Nat) (R : Value → World → Prop) (w : World) : Prop :=
 bif (a1 : Int) != (a4 : Int) then (
 R (.bool false) w) else (
 ∃ (I0 : Nat → List Value → World → Prop) (m4 : Nat), I0 m4 [.int .i64 0] w ∧ ∀ (m5 : Nat) (a2 : World) (t3 : Int), I0 m5 [.int .i64 t3] a2 →
 bif decide (t3 < (a1 : Int)) then (
 thenW (a2.drew) fun a0 =>
 a6.elim False fun a8 =>
 0 ≤ (t3 : Int) ∧ (t3 : Int) < (a1 : Int) ∧
 ∃ (x9 : Int), a0.cell? (a8.add (Int.toNat t3 * 1)) = some (.int .u8 x9) ∧
 a9.elim False fun a7 =>
 0 ≤ (t3 : Int) ∧ (t3 : Int) < (a4 : Int) ∧
 ∃ (a5 : Int), a0.cell? (a7.add (Int.toNat t3 * 1)) = some (.int .u8 a5) ∧
 bif x9 != a5 then (
 R (.bool false) a0) else (
 ∃ a3, a3 < m5 ∧ I0 a3 [.int .i64 (IntKind.i64.wrap (t3 + 1))] a0)) else (
 R (.bool true) a2))

theorem slices_Equal_byte_byte.eq (s1a : Option Addr) (s1n : Nat) (s1c : Nat) (s2a : Option Addr) (s2n : Nat) (s2c : Nat) (R : Value → World → Prop) (w : World) : mfunc Try.prog [(0, [0, 1, 12], [(13, (.one (.int .i64)))])] 49 [.slice s1a s1n s1c, .slice s2a s2n s2c] R w = slices_Equal_byte_byte.M s1a s1n s1c s2a s2n s2c R w := by kernel_rfl
theorem slices_Equal_byte_byte.ok (a4 : Option Addr) (a2 : Nat) (a1 : Nat) (a5 : Option Addr) (a3 : Nat) (a0 : Nat) {R : Value → World → Prop} {w : World} (h : slices_Equal_byte_byte.M a4 a2 a1 a5 a3 a0 R w) : Calls Try.prog 49 #[.slice a4 a2 a1, .slice a5 a3 a0] w fun e w' => ∃ v, e = .returned v ∧ R v w' :=
  mfunc_ok follows (H := [(0, [0, 1, 12], [(13, (.one (.int .i64)))])]) (args := [.slice a4 a2 a1, .slice a5 a3 a0]) (by rw [slices_Equal_byte_byte.eq]; exact h)

def slices_Equal_byte_byte.N (aa : Option Addr) (a2 : Nat) (ac : Nat) (a9 : Option Addr) (a3 : Nat) (ab : Nat) (R : Value → World → Prop) (w : World) : Prop :=
 ((a2 : Int) ≠ (a3 : Int) →
 R (.bool false) w) ∧
 ((a2 : Int) = (a3 : Int) →
 ∃ (I0 : Nat → List Value → World → Prop) (m5 : Nat), I0 m5 [.int .i64 0] w ∧ ∀ (m6 : Nat) (a0 : World) (t4 : Int), I0 m6 [.int .i64 t4] a0 →
 (t4 < (a2 : Int) →
 ∃ a7 : Addr, aa = some a7 ∧
 0 ≤ (t4 : Int) ∧ (t4 : Int) < (a2 : Int) ∧
 ∃ (a4 : Int), a0.cell? (a7.add (Int.toNat t4 * 1)) = some (.int .u8 a4) ∧
 ∃ a8 : Addr, a9 = some a8 ∧
 0 ≤ (t4 : Int) ∧ (t4 : Int) < (a3 : Int) ∧
 ∃ (a5 : Int), a0.cell? (a8.add (Int.toNat t4 * 1)) = some (.int .u8 a5) ∧
 (a4 ≠ a5 →
 ∀ (a1 : World), Ext no a0 a1 →
 R (.bool false) a1) ∧
 (a4 = a5 →
 (-9223372036854775808 : Int) ≤ (t4 + 1) ∧ (t4 + 1) < 9223372036854775808 ∧
 ∀ (a1 : World), Ext no a0 a1 →
 ∃ a6, a6 < m6 ∧ I0 a6 [.int .i64 (t4 + 1)] a1)) ∧
 ((a2 : Int) ≤ t4 →
 R (.bool true) a0))

theorem slices_Equal_byte_byte.up (ad : Option Addr) (ac : Nat) (ab : Nat) (ae : Option Addr) (a9 : Nat) (a8 : Nat) {R : Value → World → Prop} {w : World} (h : slices_Equal_byte_byte.N ad ac ab ae a9 a8 R w) : slices_Equal_byte_byte.M ad ac ab ae a9 a8 R w := by
  unfold slices_Equal_byte_byte.M
  unfold slices_Equal_byte_byte.N at h
  refine bif_of (fun c3 => ?_) (fun c3 => ?_)
  · have h := h.1 (bne_t c3)
    exact h
  · have h := h.2 (bne_f c3)
    obtain ⟨I0, m5, h0, h⟩ := h
    refine ⟨I0, m5, h0, fun m6 af t4 hI => ?_⟩
    have h := h m6 af t4 hI
    refine bif_of (fun c8 => ?_) (fun c8 => ?_)
    · have h := h.1 (of_decide_eq_true c8)
      refine thenW_in fun aa e9 => ?_
      have a0 := (Ext.refl no af).x_drew e9
      obtain ⟨am, a5, h⟩ := h
      refine elim_some a5 ?_
      obtain ⟨a1, a4, h⟩ := h
      refine ⟨a1, a4, ?_⟩
      obtain ⟨ak, a7, h⟩ := h
      refine ⟨ak, (a0).cell a7 id, ?_⟩
      obtain ⟨al, a6, h⟩ := h
      refine elim_some a6 ?_
      obtain ⟨a1, a4, h⟩ := h
      refine ⟨a1, a4, ?_⟩
      obtain ⟨ag, a3, h⟩ := h
      refine ⟨ag, (a0).cell a3 id, ?_⟩
      refine bif_of (fun a2 => ?_) (fun a2 => ?_)
      · have h := h.1 (bne_t a2)
        have h := h aa a0
        exact h
      · have h := h.2 (bne_f a2)
        obtain ⟨ah, aj, h⟩ := h
        try rw [w64 ah aj]
        have h := h aa a0
        obtain ⟨ai, hk, h⟩ := h
        exact ⟨ai, hk, h⟩
    · have h := h.2 (Int.not_lt.1 (of_decide_eq_false c8))
      exact h

theorem slices_Equal_byte_byte.go (a4 : Option Addr) (a2 : Nat) (a1 : Nat) (a5 : Option Addr) (a3 : Nat) (a0 : Nat) {R : Value → World → Prop} {w : World} (h : slices_Equal_byte_byte.N a4 a2 a1 a5 a3 a0 R w) : Calls Try.prog 49 #[.slice a4 a2 a1, .slice a5 a3 a0] w fun e w' => ∃ v, e = .returned v ∧ R v w' := slices_Equal_byte_byte.ok a4 a2 a1 a5 a3 a0 (slices_Equal_byte_byte.up a4 a2 a1 a5 a3 a0 h)
theorem slices_Equal_byte_byte.run (a4 : Option Addr) (a2 : Nat) (a1 : Nat) (a5 : Option Addr) (a3 : Nat) (a0 : Nat) {V : Value} {Q : World → Prop} {w : World} (h : slices_Equal_byte_byte.N a4 a2 a1 a5 a3 a0 (fun v w' => v = V ∧ Q w') w) : Calls Try.prog 49 #[.slice a4 a2 a1, .slice a5 a3 a0] w (Ret V Q) := (slices_Equal_byte_byte.go a4 a2 a1 a5 a3 a0 h).mono fun e w' ⟨v, he, hv, hq⟩ => ⟨by rw [he, hv], hq⟩

/-- snapshot.number -/
def snapshot_number.M (a0 : Nat) (ad : Array Value) (ab : Array Value) (i2 : Int) (R : Value → World → Prop) (w : World) : Prop :=
 bif enters Try.prog a0 then Calls Try.prog a0 (ad.toList ++ ([.int .i64 i2] : List Value) ++ ab.toList).toArray w (fun b9 b5 => ∃ (af : Option Addr) (al : Nat) (ag : Nat) (r4 : Int), b9 = .returned (.tuple #[.slice af al ag, .int .i64 r4]) ∧
 bif r4 != 0 then (
 R (.int .u32 0) b5) else (
 (0 : Int) ≤ (5 : Int) ∧ (5 : Int) ≤ (ag : Int) ∧ (0 : Int) ≤ (1 : Int) ∧ (1 : Int) ≤ (5 : Int) ∧
 ∃ (I0 : Nat → List Value → World → Prop) (b8 : Nat), I0 b8 [.int .u32 0, .int .i64 0] b5 ∧ ∀ (b2 : Nat) (ac : World) (n8 : Int) (t9 : Int), I0 b2 [.int .u32 n8, .int .i64 t9] ac →
 bif decide (t9 < (((Int.toNat 5) - (Int.toNat 1) : Nat) : Int)) then (
 (if ag = Int.toNat 1 then af else Option.map (fun z : Addr => z.add ((Int.toNat 1) * 1)) af).elim False fun b7 =>
 0 ≤ (t9 : Int) ∧ (t9 : Int) < (((Int.toNat 5) - (Int.toNat 1) : Nat) : Int) ∧
 ∃ (b3 : Int), ac.cell? (b7.add (Int.toNat t9 * 1)) = some (.int .u8 b3) ∧
 0 ≤ (8 : Int) ∧
 ∃ b1, b1 < b2 ∧ I0 b1 [.int .u32 (IntKind.u32.wrap ((BitVec.ofInt (IntKind.bits .u32) (IntKind.u32.wrap (n8 * 2 ^ (min (Int.toNat 8) (IntKind.bits .u32)))) ||| BitVec.ofInt (IntKind.bits .u32) (IntKind.u32.wrap b3)).toNat)), .int .i64 (IntKind.i64.wrap (t9 + 1))] ac) else (
 bif n8 == 0 then (
 R (.int .u32 0) ac) else (
 Calls Try.prog 35 #[.int .u32 n8] ac fun ar am => ∃ (a2 : Int), ar = .returned (.int .i64 a2) ∧
 bif a2 != i2 then (
 R (.int .u32 0) am) else (
 Calls Try.prog 36 #[.int .u32 n8] am fun ao au => ∃ (a1 : Option Addr) (a4 : Nat) (a7 : Nat), ao = .returned (.slice a1 a4 a7) ∧
 Calls Try.prog 49 #[.slice a1 a4 a7, .slice af al ag] au fun aw aj => ∃ (a6 : Bool), aw = .returned (.bool a6) ∧
 bif !a6 then (
 R (.int .u32 0) aj) else (
 R (.int .u32 n8) aj)))))) else (∃ (af : Option Addr) (al : Nat) (ag : Nat) (r4 : Int) (ay : World), (externCall a0 (ad.toList ++ ([.int .i64 i2] : List Value) ++ ab.toList).toArray).run Try.prog w = .ok (.tuple #[.slice af al ag, .int .i64 r4]) ay ∧
 bif r4 != 0 then (
 R (.int .u32 0) ay) else (
 (0 : Int) ≤ (5 : Int) ∧ (5 : Int) ≤ (ag : Int) ∧ (0 : Int) ≤ (1 : Int) ∧ (1 : Int) ≤ (5 : Int) ∧
 ∃ (I0 : Nat → List Value → World → Prop) (b6 : Nat), I0 b6 [.int .u32 0, .int .i64 0] ay ∧ ∀ (b4 : Nat) (ae : World) (ah : Int) (ai : Int), I0 b4 [.int .u32 ah, .int .i64 ai] ae →
 bif decide (ai < (((Int.toNat 5) - (Int.toNat 1) : Nat) : Int)) then (
 (if ag = Int.toNat 1 then af else Option.map (fun z : Addr => z.add ((Int.toNat 1) * 1)) af).elim False fun ba =>
 0 ≤ (ai : Int) ∧ (ai : Int) < (((Int.toNat 5) - (Int.toNat 1) : Nat) : Int) ∧
 ∃ (az : Int), ae.cell? (ba.add (Int.toNat ai * 1)) = some (.int .u8 az) ∧
 0 ≤ (8 : Int) ∧
 ∃ b0, b0 < b4 ∧ I0 b0 [.int .u32 (IntKind.u32.wrap ((BitVec.ofInt (IntKind.bits .u32) (IntKind.u32.wrap (ah * 2 ^ (min (Int.toNat 8) (IntKind.bits .u32)))) ||| BitVec.ofInt (IntKind.bits .u32) (IntKind.u32.wrap az)).toNat)), .int .i64 (IntKind.i64.wrap (ai + 1))] ae) else (
 bif ah == 0 then (
 R (.int .u32 0) ae) else (
 Calls Try.prog 35 #[.int .u32 ah] ae fun ax an => ∃ (a3 : Int), ax = .returned (.int .i64 a3) ∧
 bif a3 != i2 then (
 R (.int .u32 0) an) else (
 Calls Try.prog 36 #[.int .u32 ah] an fun av aq => ∃ (aa : Option Addr) (a9 : Nat) (a5 : Nat), av = .returned (.slice aa a9 a5) ∧
 Calls Try.prog 49 #[.slice aa a9 a5, .slice af al ag] aq fun ap ak => ∃ (a8 : Bool), ap = .returned (.bool a8) ∧
 bif !a8 then (
 R (.int .u32 0) ak) else (
 R (.int .u32 ah) ak))))))

theorem snapshot_number.eq (read1k : Nat) (read1f : Array Value) (read1g : Array Value) (i2 : Int) (R : Value → World → Prop) (w : World) : mfunc Try.prog [(0, [1, 5, 19, 20], [(7, (.one (.int .u32))), (21, (.one (.int .i64)))])] 24 [.func (.func read1k) read1f read1g, .int .i64 i2] R w = snapshot_number.M read1k read1f read1g i2 R w := by kernel_rfl
theorem snapshot_number.ok (a0 : Nat) (a1 : Array Value) (a2 : Array Value) (i2 : Int) {R : Value → World → Prop} {w : World} (h : snapshot_number.M a0 a1 a2 i2 R w) : Calls Try.prog 24 #[.func (.func a0) a1 a2, .int .i64 i2] w fun e w' => ∃ v, e = .returned v ∧ R v w' :=
  mfunc_ok follows (H := [(0, [1, 5, 19, 20], [(7, (.one (.int .u32))), (21, (.one (.int .i64)))])]) (args := [.func (.func a0) a1 a2, .int .i64 i2]) (by rw [snapshot_number.eq]; exact h)

def snapshot_number.N (a6 : Nat) (a8 : Array Value) (a7 : Array Value) (i2 : Int) (R : Value → World → Prop) (w : World) : Prop :=
 enters Try.prog a6 = true ∧ Calls Try.prog a6 (a8.toList ++ ([.int .i64 i2] : List Value) ++ a7.toList).toArray w (fun ao ah => ∃ (ad : Option Addr) (am : Nat) (ab : Nat) (r4 : Int), ao = .returned (.tuple #[.slice ad am ab, .int .i64 r4]) ∧
 (r4 ≠ 0 →
 R (.int .u32 0) ah) ∧
 (r4 = 0 →
 (5 : Int) ≤ (ab : Int) ∧ 
 ∃ (I0 : Nat → List Value → World → Prop) (an : Nat), I0 an [.int .u32 0, .int .i64 0] ah ∧ ∀ (ai : Nat) (a5 : World) (n8 : Int) (t9 : Int), I0 ai [.int .u32 n8, .int .i64 t9] a5 →
 (t9 < ((5 - 1 : Nat) : Int) →
 ∃ al : Addr, cutA ad ab 1 1 = some al ∧
 0 ≤ (t9 : Int) ∧ (t9 : Int) < ((5 - 1 : Nat) : Int) ∧
 ∃ (aj : Int), a5.cell? (al.add (Int.toNat t9 * 1)) = some (.int .u8 aj) ∧
 (-9223372036854775808 : Int) ≤ (t9 + 1) ∧ (t9 + 1) < 9223372036854775808 ∧
 ∃ ak, ak < ai ∧ I0 ak [.int .u32 (IntKind.u32.wrap ((BitVec.ofInt (IntKind.bits .u32) (IntKind.u32.wrap (n8 * 256)) ||| BitVec.ofInt (IntKind.bits .u32) (IntKind.u32.wrap aj)).toNat)), .int .i64 (t9 + 1)] a5) ∧
 (((5 - 1 : Nat) : Int) ≤ t9 →
 (n8 = 0 →
 R (.int .u32 0) a5) ∧
 (n8 ≠ 0 →
 Calls Try.prog 35 #[.int .u32 n8] a5 fun ac aa => ∃ (a1 : Int), ac = .returned (.int .i64 a1) ∧
 (a1 ≠ i2 →
 R (.int .u32 0) aa) ∧
 (a1 = i2 →
 Calls Try.prog 36 #[.int .u32 n8] aa fun ag af => ∃ (a2 : Option Addr) (a4 : Nat) (a3 : Nat), ag = .returned (.slice a2 a4 a3) ∧
 Calls Try.prog 49 #[.slice a2 a4 a3, .slice ad am ab] af fun ae a9 => ∃ (a0 : Bool), ae = .returned (.bool a0) ∧
 (a0 = false →
 R (.int .u32 0) a9) ∧
 (a0 = true →
 R (.int .u32 n8) a9))))))

theorem snapshot_number.up (a1 : Nat) (a2 : Array Value) (a0 : Array Value) (i2 : Int) {R : Value → World → Prop} {w : World} (h : snapshot_number.N a1 a2 a0 i2 R w) : snapshot_number.M a1 a2 a0 i2 R w := by
  unfold snapshot_number.M
  unfold snapshot_number.N at h
  obtain ⟨hen, h⟩ := h
  refine bif_tt hen ?_
  refine h.mono fun az ay h => ?_
  obtain ⟨ah, ax, ai, r4, he, h⟩ := h
  refine ⟨ah, ax, ai, r4, he, ?_⟩
  refine bif_of (fun c7 => ?_) (fun c7 => ?_)
  · have h := h.1 (bne_t c7)
    exact h
  · have h := h.2 (bne_f c7)
    obtain ⟨a8, h⟩ := h
    refine ⟨by decide, a8, by decide, by decide, ?_⟩
    obtain ⟨I0, ao, h0, h⟩ := h
    refine ⟨I0, ao, h0, fun al aa n8 t9 hI => ?_⟩
    have h := h al aa n8 t9 hI
    refine bif_of (fun ae => ?_) (fun ae => ?_)
    · have h := h.1 (of_decide_eq_true ae)
      obtain ⟨b0, ab, h⟩ := h
      refine elim_some ab ?_
      obtain ⟨a8, ak, h⟩ := h
      refine ⟨a8, ak, ?_⟩
      obtain ⟨aq, a9, h⟩ := h
      refine ⟨aq, a9, ?_⟩
      refine ⟨by decide, ?_⟩
      try rw [show (2 ^ (min (Int.toNat 8) (IntKind.bits .u32)) : Int) = 256 from rfl]
      obtain ⟨ap, av, h⟩ := h
      try rw [w64 ap av]
      obtain ⟨au, hk, h⟩ := h
      exact ⟨au, hk, h⟩
    · have h := h.2 (Int.not_lt.1 (of_decide_eq_false ae))
      refine bif_of (fun ac => ?_) (fun ac => ?_)
      · have h := h.1 (beq_t ac)
        exact h
      · have h := h.2 (beq_f ac)
        refine h.mono fun ag ar h => ?_
        obtain ⟨a7, he, h⟩ := h
        refine ⟨a7, he, ?_⟩
        refine bif_of (fun ad => ?_) (fun ad => ?_)
        · have h := h.1 (bne_t ad)
          exact h
        · have h := h.2 (bne_f ad)
          refine h.mono fun aw am h => ?_
          obtain ⟨a3, a6, a4, he, h⟩ := h
          refine ⟨a3, a6, a4, he, ?_⟩
          refine h.mono fun aj an h => ?_
          obtain ⟨a5, he, h⟩ := h
          refine ⟨a5, he, ?_⟩
          refine bif_of (fun af => ?_) (fun af => ?_)
          · have h := h.1 (not_t af)
            exact h
          · have h := h.2 (not_f af)
            exact h

theorem snapshot_number.go (a0 : Nat) (a1 : Array Value) (a2 : Array Value) (i2 : Int) {R : Value → World → Prop} {w : World} (h : snapshot_number.N a0 a1 a2 i2 R w) : Calls Try.prog 24 #[.func (.func a0) a1 a2, .int .i64 i2] w fun e w' => ∃ v, e = .returned v ∧ R v w' := snapshot_number.ok a0 a1 a2 i2 (snapshot_number.up a0 a1 a2 i2 h)
theorem snapshot_number.run (a0 : Nat) (a1 : Array Value) (a2 : Array Value) (i2 : Int) {V : Value} {Q : World → Prop} {w : World} (h : snapshot_number.N a0 a1 a2 i2 (fun v w' => v = V ∧ Q w') w) : Calls Try.prog 24 #[.func (.func a0) a1 a2, .int .i64 i2] w (Ret V Q) := (snapshot_number.go a0 a1 a2 i2 h).mono fun e w' ⟨v, he, hv, hq⟩ => ⟨by rw [he, hv], hq⟩

/-- (*snapshot.Store).base -/
def snapshot_Store_base.M (s1 : Option Addr) (n2 : Int) (R : Value → World → Prop) (w : World) : Prop :=
 thenW (w.drew) fun a3 =>
 s1.elim False fun a4 =>
 ∃ (a1 : Int), a3.cell? (a4.add 1) = some (.int .i64 a1) ∧
 Calls Try.prog 35 #[.int .u32 n2] a3 fun a5 a2 => ∃ (a0 : Int), a5 = .returned (.int .i64 a0) ∧
 a2.cell? (a4.add 1) = some (.int .i64 a1) ∧
 R (.int .i64 (IntKind.i64.wrap ((2 : Int) + (IntKind.i64.wrap (a0 * a1))))) a2

theorem snapshot_Store_base.eq (s1 : Option Addr) (n2 : Int) (R : Value → World → Prop) (w : World) : mfunc Try.prog [] 27 [.pointer s1, .int .u32 n2] R w = snapshot_Store_base.M s1 n2 R w := by kernel_rfl
theorem snapshot_Store_base.ok (s1 : Option Addr) (n2 : Int) {R : Value → World → Prop} {w : World} (h : snapshot_Store_base.M s1 n2 R w) : Calls Try.prog 27 #[.pointer s1, .int .u32 n2] w fun e w' => ∃ v, e = .returned v ∧ R v w' :=
  mfunc_ok follows (H := []) (args := [.pointer s1, .int .u32 n2]) (by rw [snapshot_Store_base.eq]; exact h)

def snapshot_Store_base.N (s1 : Option Addr) (n2 : Int) (R : Value → World → Prop) (w : World) : Prop :=
 ∃ a4 : Addr, s1 = some a4 ∧
 ∃ (a1 : Int), w.cell? (a4.add 1) = some (.int .i64 a1) ∧
 ∀ (a3 : World), Ext no w a3 →
 Calls Try.prog 35 #[.int .u32 n2] a3 fun a5 a2 => ∃ (a0 : Int), a5 = .returned (.int .i64 a0) ∧
 a2.cell? (a4.add 1) = some (.int .i64 a1) ∧
 (-9223372036854775808 : Int) ≤ (a0 * a1) ∧ (a0 * a1) < 9223372036854775808 ∧
 (-9223372036854775808 : Int) ≤ ((2 : Int) + (a0 * a1)) ∧ ((2 : Int) + (a0 * a1)) < 9223372036854775808 ∧
 R (.int .i64 ((2 : Int) + (a0 * a1))) a2

theorem snapshot_Store_base.up (s1 : Option Addr) (n2 : Int) {R : Value → World → Prop} {w : World} (h : snapshot_Store_base.N s1 n2 R w) : snapshot_Store_base.M s1 n2 R w := by
  unfold snapshot_Store_base.M
  unfold snapshot_Store_base.N at h
  refine thenW_in fun a9 e3 => ?_
  have a6 := (Ext.refl no w).x_drew e3
  obtain ⟨a4, a7, h⟩ := h
  refine elim_some a7 ?_
  obtain ⟨a1, a8, h⟩ := h
  refine ⟨a1, (a6).cell a8 id, ?_⟩
  have h := h a9 a6
  refine h.mono fun ab aa h => ?_
  obtain ⟨a0, he, h⟩ := h
  refine ⟨a0, he, ?_⟩
  obtain ⟨a5, h⟩ := h
  refine ⟨a5, ?_⟩
  obtain ⟨a2, a3, h⟩ := h
  try rw [w64 a2 a3]
  obtain ⟨a2, a3, h⟩ := h
  try rw [w64 a2 a3]
  exact h

theorem snapshot_Store_base.go (s1 : Option Addr) (n2 : Int) {R : Value → World → Prop} {w : World} (h : snapshot_Store_base.N s1 n2 R w) : Calls Try.prog 27 #[.pointer s1, .int .u32 n2] w fun e w' => ∃ v, e = .returned v ∧ R v w' := snapshot_Store_base.ok s1 n2 (snapshot_Store_base.up s1 n2 h)
theorem snapshot_Store_base.run (s1 : Option Addr) (n2 : Int) {V : Value} {Q : World → Prop} {w : World} (h : snapshot_Store_base.N s1 n2 (fun v w' => v = V ∧ Q w') w) : Calls Try.prog 27 #[.pointer s1, .int .u32 n2] w (Ret V Q) := (snapshot_Store_base.go s1 n2 h).mono fun e w' ⟨v, he, hv, hq⟩ => ⟨by rw [he, hv], hq⟩

/-- (*snapshot.Store).see -/
def snapshot_Store_see.M (s1 : Option Addr) (k2 : Int) (R : Value → World → Prop) (w : World) : Prop :=
 bif k2 == 19 then (
 s1.elim False fun a3 =>
 canStore w ((a3.add 4).add 0) ∧
 thenW (w.setCell ((a3.add 4).add 0) (.bool true)) fun a0 =>
 R (.int .i64 k2) a0) else (
 R (.int .i64 k2) w)

theorem snapshot_Store_see.eq (s1 : Option Addr) (k2 : Int) (R : Value → World → Prop) (w : World) : mfunc Try.prog [] 38 [.pointer s1, .int .i64 k2] R w = snapshot_Store_see.M s1 k2 R w := by kernel_rfl
theorem snapshot_Store_see.ok (s1 : Option Addr) (k2 : Int) {R : Value → World → Prop} {w : World} (h : snapshot_Store_see.M s1 k2 R w) : Calls Try.prog 38 #[.pointer s1, .int .i64 k2] w fun e w' => ∃ v, e = .returned v ∧ R v w' :=
  mfunc_ok follows (H := []) (args := [.pointer s1, .int .i64 k2]) (by rw [snapshot_Store_see.eq]; exact h)

def snapshot_Store_see.N (s1 : Option Addr) (k2 : Int) (R : Value → World → Prop) (w : World) : Prop :=
 (k2 = 19 →
 ∃ a4 : Addr, s1 = some a4 ∧
 canStore w ((a4.add 4).add 0) ∧
 thenW (w.setCell ((a4.add 4).add 0) (.bool true)) fun a0 =>
 R (.int .i64 k2) a0) ∧
 (k2 ≠ 19 →
 R (.int .i64 k2) w)

theorem snapshot_Store_see.up (s1 : Option Addr) (k2 : Int) {R : Value → World → Prop} {w : World} (h : snapshot_Store_see.N s1 k2 R w) : snapshot_Store_see.M s1 k2 R w := by
  unfold snapshot_Store_see.M
  unfold snapshot_Store_see.N at h
  refine bif_of (fun c3 => ?_) (fun c3 => ?_)
  · have h := h.1 (beq_t c3)
    obtain ⟨a4, a0, h⟩ := h
    refine elim_some a0 ?_
    obtain ⟨hcs, h⟩ := h
    refine ⟨hcs, thenW_in fun a1 e5 => ?_⟩
    replace h := thenW_out h e5
    exact h
  · have h := h.2 (beq_f c3)
    exact h

theorem snapshot_Store_see.go (s1 : Option Addr) (k2 : Int) {R : Value → World → Prop} {w : World} (h : snapshot_Store_see.N s1 k2 R w) : Calls Try.prog 38 #[.pointer s1, .int .i64 k2] w fun e w' => ∃ v, e = .returned v ∧ R v w' := snapshot_Store_see.ok s1 k2 (snapshot_Store_see.up s1 k2 h)
theorem snapshot_Store_see.run (s1 : Option Addr) (k2 : Int) {V : Value} {Q : World → Prop} {w : World} (h : snapshot_Store_see.N s1 k2 (fun v w' => v = V ∧ Q w') w) : Calls Try.prog 38 #[.pointer s1, .int .i64 k2] w (Ret V Q) := (snapshot_Store_see.go s1 k2 h).mono fun e w' ⟨v, he, hv, hq⟩ => ⟨by rw [he, hv], hq⟩

/-- (*snapshot.Store).Compact$1 -/
def snapshot_Store_Compact_1.M (a0 : Addr) (R : Value → World → Prop) (w : World) : Prop :=
 ∃ (x2 : Int), w.cell? a0 = some (.int .i64 x2) ∧
 R (.int .i64 x2) w

theorem snapshot_Store_Compact_1.eq (cap1 : Addr) (R : Value → World → Prop) (w : World) : mfunc Try.prog [] 30 [.pointer (some cap1)] R w = snapshot_Store_Compact_1.M cap1 R w := by kernel_rfl
theorem snapshot_Store_Compact_1.ok (a0 : Addr) {R : Value → World → Prop} {w : World} (h : snapshot_Store_Compact_1.M a0 R w) : Calls Try.prog 30 #[.pointer (some a0)] w fun e w' => ∃ v, e = .returned v ∧ R v w' :=
  mfunc_ok follows (H := []) (args := [.pointer (some a0)]) (by rw [snapshot_Store_Compact_1.eq]; exact h)

def snapshot_Store_Compact_1.N (a0 : Addr) (R : Value → World → Prop) (w : World) : Prop :=
 ∃ (x3 : Int), w.cell? a0 = some (.int .i64 x3) ∧
 R (.int .i64 x3) w

theorem snapshot_Store_Compact_1.up (a0 : Addr) {R : Value → World → Prop} {w : World} (h : snapshot_Store_Compact_1.N a0 R w) : snapshot_Store_Compact_1.M a0 R w := by
  unfold snapshot_Store_Compact_1.M
  unfold snapshot_Store_Compact_1.N at h
  obtain ⟨x3, a1, h⟩ := h
  refine ⟨x3, a1, ?_⟩
  exact h

theorem snapshot_Store_Compact_1.go (a0 : Addr) {R : Value → World → Prop} {w : World} (h : snapshot_Store_Compact_1.N a0 R w) : Calls Try.prog 30 #[.pointer (some a0)] w fun e w' => ∃ v, e = .returned v ∧ R v w' := snapshot_Store_Compact_1.ok a0 (snapshot_Store_Compact_1.up a0 h)
theorem snapshot_Store_Compact_1.run (a0 : Addr) {V : Value} {Q : World → Prop} {w : World} (h : snapshot_Store_Compact_1.N a0 (fun v w' => v = V ∧ Q w') w) : Calls Try.prog 30 #[.pointer (some a0)] w (Ret V Q) := (snapshot_Store_Compact_1.go a0 h).mono fun e w' ⟨v, he, hv, hq⟩ => ⟨by rw [he, hv], hq⟩

/-- (*snapshot.Store).Compact$2 -/
def snapshot_Store_Compact_2.M (a1 : Addr) (a2 : Addr) (R : Value → World → Prop) (w : World) : Prop :=
 ∃ (x3 : Option Addr), w.cell? a1 = some (.pointer x3) ∧
 ∃ (a5 : Option Addr) (a4 : Nat) (a3 : Nat), w.cell? a2 = some (.slice a5 a4 a3) ∧
 Calls Try.prog 32 #[.pointer x3, .slice a5 a4 a3] w fun a6 a7 => ∃ (a0 : Int), a6 = .returned (.int .i64 a0) ∧
 R (.int .i64 a0) a7

theorem snapshot_Store_Compact_2.eq (cap1 : Addr) (cap2 : Addr) (R : Value → World → Prop) (w : World) : mfunc Try.prog [] 31 [.pointer (some cap1), .pointer (some cap2)] R w = snapshot_Store_Compact_2.M cap1 cap2 R w := by kernel_rfl
theorem snapshot_Store_Compact_2.ok (a0 : Addr) (a1 : Addr) {R : Value → World → Prop} {w : World} (h : snapshot_Store_Compact_2.M a0 a1 R w) : Calls Try.prog 31 #[.pointer (some a0), .pointer (some a1)] w fun e w' => ∃ v, e = .returned v ∧ R v w' :=
  mfunc_ok follows (H := []) (args := [.pointer (some a0), .pointer (some a1)]) (by rw [snapshot_Store_Compact_2.eq]; exact h)

def snapshot_Store_Compact_2.N (a1 : Addr) (a2 : Addr) (R : Value → World → Prop) (w : World) : Prop :=
 ∃ (x4 : Option Addr), w.cell? a1 = some (.pointer x4) ∧
 ∃ (a5 : Option Addr) (a3 : Nat) (a4 : Nat), w.cell? a2 = some (.slice a5 a3 a4) ∧
 Calls Try.prog 32 #[.pointer x4, .slice a5 a3 a4] w fun a7 a6 => ∃ (a0 : Int), a7 = .returned (.int .i64 a0) ∧
 R (.int .i64 a0) a6

theorem snapshot_Store_Compact_2.up (a1 : Addr) (a2 : Addr) {R : Value → World → Prop} {w : World} (h : snapshot_Store_Compact_2.N a1 a2 R w) : snapshot_Store_Compact_2.M a1 a2 R w := by
  unfold snapshot_Store_Compact_2.M
  unfold snapshot_Store_Compact_2.N at h
  obtain ⟨x4, a7, h⟩ := h
  refine ⟨x4, a7, ?_⟩
  obtain ⟨a6, a3, a4, a5, h⟩ := h
  refine ⟨a6, a3, a4, a5, ?_⟩
  refine h.mono fun a9 a8 h => ?_
  obtain ⟨a0, he, h⟩ := h
  refine ⟨a0, he, ?_⟩
  exact h

theorem snapshot_Store_Compact_2.go (a0 : Addr) (a1 : Addr) {R : Value → World → Prop} {w : World} (h : snapshot_Store_Compact_2.N a0 a1 R w) : Calls Try.prog 31 #[.pointer (some a0), .pointer (some a1)] w fun e w' => ∃ v, e = .returned v ∧ R v w' := snapshot_Store_Compact_2.ok a0 a1 (snapshot_Store_Compact_2.up a0 a1 h)
theorem snapshot_Store_Compact_2.run (a0 : Addr) (a1 : Addr) {V : Value} {Q : World → Prop} {w : World} (h : snapshot_Store_Compact_2.N a0 a1 (fun v w' => v = V ∧ Q w') w) : Calls Try.prog 31 #[.pointer (some a0), .pointer (some a1)] w (Ret V Q) := (snapshot_Store_Compact_2.go a0 a1 h).mono fun e w' ⟨v, he, hv, hq⟩ => ⟨by rw [he, hv], hq⟩

/-- (*snapshot.Store).Compact$3 -/
def snapshot_Store_Compact_3.M (a7 : Addr) (a8 : Addr) (R : Value → World → Prop) (w : World) : Prop :=
 thenW (w.drew) fun aa =>
 ∃ (x4 : Option Addr), aa.cell? a7 = some (.pointer x4) ∧
 x4.elim False fun a5 =>
 ∃ (d6 : Option Addr), aa.cell? (a5.add 0) = some (.pointer d6) ∧
 ∃ (x7 : Int), aa.cell? a8 = some (.int .u32 x7) ∧
 ∃ (x8 : Int), aa.cell? a8 = some (.int .u32 x8) ∧
 Calls Try.prog 35 #[.int .u32 x7] aa fun ab a6 => ∃ (a4 : Int), ab = .returned (.int .i64 a4) ∧
 a6.cell? a8 = some (.int .u32 x8) ∧
 a6.cell? (a5.add 0) = some (.pointer d6) ∧
 a6.cell? a7 = some (.pointer x4) ∧
 Calls Try.prog 36 #[.int .u32 x8] a6 fun ae a9 => ∃ (a2 : Option Addr) (a0 : Nat) (a1 : Nat), ae = .returned (.slice a2 a0 a1) ∧
 a9.cell? (a5.add 0) = some (.pointer d6) ∧
 a9.cell? a7 = some (.pointer x4) ∧
 Calls Try.prog 34 #[.pointer d6, .int .i64 a4, .slice a2 a0 a1] a9 fun ac ad => ∃ (a3 : Int), ac = .returned (.int .i64 a3) ∧
 R (.int .i64 a3) ad

theorem snapshot_Store_Compact_3.eq (cap1 : Addr) (cap2 : Addr) (R : Value → World → Prop) (w : World) : mfunc Try.prog [] 33 [.pointer (some cap1), .pointer (some cap2)] R w = snapshot_Store_Compact_3.M cap1 cap2 R w := by kernel_rfl
theorem snapshot_Store_Compact_3.ok (a0 : Addr) (a1 : Addr) {R : Value → World → Prop} {w : World} (h : snapshot_Store_Compact_3.M a0 a1 R w) : Calls Try.prog 33 #[.pointer (some a0), .pointer (some a1)] w fun e w' => ∃ v, e = .returned v ∧ R v w' :=
  mfunc_ok follows (H := []) (args := [.pointer (some a0), .pointer (some a1)]) (by rw [snapshot_Store_Compact_3.eq]; exact h)

def snapshot_Store_Compact_3.N (a7 : Addr) (a8 : Addr) (R : Value → World → Prop) (w : World) : Prop :=
 ∃ (x5 : Option Addr), w.cell? a7 = some (.pointer x5) ∧
 ∃ a6 : Addr, x5 = some a6 ∧
 ∃ (d8 : Option Addr), w.cell? (a6.add 0) = some (.pointer d8) ∧
 ∃ (af : Int), w.cell? a8 = some (.int .u32 af) ∧
 ∃ (ad : Int), w.cell? a8 = some (.int .u32 ad) ∧
 ∀ (ag : World), Ext no w ag →
 Calls Try.prog 35 #[.int .u32 af] ag fun ae a5 => ∃ (a3 : Int), ae = .returned (.int .i64 a3) ∧
 a5.cell? a8 = some (.int .u32 ad) ∧
 a5.cell? (a6.add 0) = some (.pointer d8) ∧
 a5.cell? a7 = some (.pointer x5) ∧
 Calls Try.prog 36 #[.int .u32 ad] a5 fun aa a9 => ∃ (a2 : Option Addr) (a4 : Nat) (a0 : Nat), aa = .returned (.slice a2 a4 a0) ∧
 a9.cell? (a6.add 0) = some (.pointer d8) ∧
 a9.cell? a7 = some (.pointer x5) ∧
 Calls Try.prog 34 #[.pointer d8, .int .i64 a3, .slice a2 a4 a0] a9 fun ab ac => ∃ (a1 : Int), ab = .returned (.int .i64 a1) ∧
 R (.int .i64 a1) ac

theorem snapshot_Store_Compact_3.up (a5 : Addr) (a7 : Addr) {R : Value → World → Prop} {w : World} (h : snapshot_Store_Compact_3.N a5 a7 R w) : snapshot_Store_Compact_3.M a5 a7 R w := by
  unfold snapshot_Store_Compact_3.M
  unfold snapshot_Store_Compact_3.N at h
  refine thenW_in fun am e3 => ?_
  have a8 := (Ext.refl no w).x_drew e3
  obtain ⟨x5, al, h⟩ := h
  refine ⟨x5, (a8).cell al id, ?_⟩
  obtain ⟨a6, aq, h⟩ := h
  refine elim_some aq ?_
  obtain ⟨d8, ai, h⟩ := h
  refine ⟨d8, (a8).cell ai id, ?_⟩
  obtain ⟨ag, an, h⟩ := h
  refine ⟨ag, (a8).cell an id, ?_⟩
  obtain ⟨ar, ae, h⟩ := h
  refine ⟨ar, (a8).cell ae id, ?_⟩
  have h := h am a8
  refine h.mono fun ap ah h => ?_
  obtain ⟨a1, he, h⟩ := h
  refine ⟨a1, he, ?_⟩
  obtain ⟨aa, a9, ac, h⟩ := h
  refine ⟨aa, a9, ac, ?_⟩
  refine h.mono fun af ao h => ?_
  obtain ⟨a0, a2, a4, he, h⟩ := h
  refine ⟨a0, a2, a4, he, ?_⟩
  obtain ⟨ab, ad, h⟩ := h
  refine ⟨ab, ad, ?_⟩
  refine h.mono fun aj ak h => ?_
  obtain ⟨a3, he, h⟩ := h
  refine ⟨a3, he, ?_⟩
  exact h

theorem snapshot_Store_Compact_3.go (a0 : Addr) (a1 : Addr) {R : Value → World → Prop} {w : World} (h : snapshot_Store_Compact_3.N a0 a1 R w) : Calls Try.prog 33 #[.pointer (some a0), .pointer (some a1)] w fun e w' => ∃ v, e = .returned v ∧ R v w' := snapshot_Store_Compact_3.ok a0 a1 (snapshot_Store_Compact_3.up a0 a1 h)
theorem snapshot_Store_Compact_3.run (a0 : Addr) (a1 : Addr) {V : Value} {Q : World → Prop} {w : World} (h : snapshot_Store_Compact_3.N a0 a1 (fun v w' => v = V ∧ Q w') w) : Calls Try.prog 33 #[.pointer (some a0), .pointer (some a1)] w (Ret V Q) := (snapshot_Store_Compact_3.go a0 a1 h).mono fun e w' ⟨v, he, hv, hq⟩ => ⟨by rw [he, hv], hq⟩

/-- (*snapshot.Store).Compact -/
def snapshot_Store_Compact.M (s1 : Option Addr) (iz : Option Addr) (ja : Nat) (jl : Nat) (R : Value → World → Prop) (w : World) : Prop :=
 thenW (w.alloc (.cells #[.pointer s1] 29)) fun ct =>
 thenW (ct.alloc (.cells #[.slice iz ja jl] 30)) fun os =>
 ∃ (x5 : Option Addr), os.cell? (blk w.heap.size) = some (.pointer x5) ∧
 bif Option.isNone x5 then (
 R (.int .i64 23) os) else (
 ∃ (qa : Option Addr) (q4 : Nat) (qf : Nat), os.cell? (blk ct.heap.size) = some (.slice qa q4 qf) ∧
 Calls Try.prog 28 #[.int .i64 (q4 : Int)] os fun qb a2 => ∃ (cq : Int), qb = .returned (.int .i64 cq) ∧
 bif cq == 0 then (
 R (.int .i64 3) a2) else (
 ∃ (pw : Option Addr), a2.cell? (blk w.heap.size) = some (.pointer pw) ∧
 pw.elim False fun q8 =>
 ∃ (ee : Bool), a2.cell? (q8.add 4) = some (.bool ee) ∧
 bif ee then (
 R (.int .i64 19) a2) else (
 ∃ (q6 : Option Addr), a2.cell? (blk w.heap.size) = some (.pointer q6) ∧
 q6.elim False fun qh =>
 ∃ (bp : Int), a2.cell? (qh.add 2) = some (.int .u32 bp) ∧
 bif bp == 4294967295 then (
 R (.int .i64 2) a2) else (
 ∃ (pu : Option Addr), a2.cell? (blk w.heap.size) = some (.pointer pu) ∧
 pu.elim False fun qi =>
 ∃ (ed : Int), a2.cell? (qi.add 1) = some (.int .i64 ed) ∧
 bif decide (cq > ed) then (
 R (.int .i64 18) a2) else (
 ∃ (px : Option Addr), a2.cell? (blk w.heap.size) = some (.pointer px) ∧
 px.elim False fun qd =>
 ∃ (br : Int), a2.cell? (qd.add 2) = some (.int .u32 br) ∧
 thenW (a2.alloc (.cells #[.int .u32 0] 34)) fun k6 =>
 canStore k6 ((blk a2.heap.size).add 0) ∧
 thenW (k6.setCell ((blk a2.heap.size).add 0) (.int .u32 (IntKind.u32.wrap (br + 1)))) fun p4 =>
 thenW (p4.drew) fun a1 =>
 ∃ (bs : Option Addr), a1.cell? (blk w.heap.size) = some (.pointer bs) ∧
 bs.elim False fun bt =>
 ∃ (ac : Option Addr), a1.cell? (bt.add 0) = some (.pointer ac) ∧
 ∃ (g0 : Option Addr), a1.cell? (blk w.heap.size) = some (.pointer g0) ∧
 ∃ (fz : Int), a1.cell? (blk a2.heap.size) = some (.int .u32 fz) ∧
 ∃ (bq : Option Addr), a1.cell? (blk w.heap.size) = some (.pointer bq) ∧
 bq.elim False fun bu =>
 ∃ (a0 : Int), a1.cell? (bu.add 1) = some (.int .i64 a0) ∧
 ∃ (aa : Int), a1.cell? (blk a2.heap.size) = some (.int .u32 aa) ∧
 (Calls Try.prog 27 #[.pointer g0, .int .u32 fz] a1 fun ov a3 => ∃ (ab : Int), ov = .returned (.int .i64 ab) ∧
 a3.cell? (blk a2.heap.size) = some (.int .u32 aa) ∧
 a3.cell? (bu.add 1) = some (.int .i64 a0) ∧
 a3.cell? (blk w.heap.size) = some (.pointer bq) ∧
 a3.cell? (bt.add 0) = some (.pointer ac) ∧
 a3.cell? (blk w.heap.size) = some (.pointer bs) ∧
 (Calls Try.prog 29 #[.pointer ac, .int .i64 ab, .int .i64 a0, .int .u32 aa] a3 fun p8 ah => ∃ (af : Option Addr) (ag : Int), p8 = .returned (.tuple #[.pointer af, .int .i64 ag]) ∧
 (thenW (ah.alloc (.cells #[.pointer none] 58)) fun g8 =>
 thenW (g8.alloc (.cells #[.int .i64 0] 26)) fun k9 =>
 canStore k9 ((blk ah.heap.size).add 0) ∧
 thenW (k9.setCell ((blk ah.heap.size).add 0) (.pointer af)) fun m6 =>
 canStore m6 ((blk g8.heap.size).add 0) ∧
 thenW (m6.setCell ((blk g8.heap.size).add 0) (.int .i64 ag)) fun g7 =>
 ∃ (pv : Option Addr), g7.cell? (blk w.heap.size) = some (.pointer pv) ∧
 pv.elim False fun qc =>
 ∃ (q1 : Option Addr), g7.cell? (qc.add 0) = some (.pointer q1) ∧
 thenW (g7.alloc (.cells #[.func (.func 30) #[] #[.pointer (some (blk g8.heap.size))], .func (.func 31) #[] #[.pointer (some (blk ah.heap.size)), .pointer (some (blk ct.heap.size))], .func (.func 33) #[] #[.pointer (some (blk w.heap.size)), .pointer (some (blk a2.heap.size))], .func (.func 37) #[.pointer q1] #[]] 68)) fun pr =>
 ∃ (I1 : Nat → List Value → World → Prop) (qe : Nat), I1 qe [.int .i64 0] pr ∧ ∀ (oz : Nat) (g4 : World) (k1 : Int), I1 oz [.int .i64 k1] g4 →
 bif decide (k1 < (4 : Int)) then (
 0 ≤ (k1 : Int) ∧ (k1 : Int) < (4 : Int) ∧
 ∃ (g1 : Nat) (jk : Array Value) (j3 : Array Value), g4.cell? ((blk g7.heap.size).add (Int.toNat k1 * 1)) = some (.func (.func g1) jk j3) ∧
 thenW (g4.drew) fun j6 =>
 ∃ (nn : Option Addr), j6.cell? (blk w.heap.size) = some (.pointer nn) ∧
 bif enters Try.prog g1 then Calls Try.prog g1 (jk.toList ++ ([] : List Value) ++ j3.toList).toArray j6 (fun pc lv => ∃ (l1 : Int), pc = .returned (.int .i64 l1) ∧
 lv.cell? (blk w.heap.size) = some (.pointer nn) ∧
 Calls Try.prog 38 #[.pointer nn, .int .i64 l1] lv fun pi lj => ∃ (ej : Int), pi = .returned (.int .i64 ej) ∧
 bif ej != 0 then (
 R (.int .i64 ej) lj) else (
 ∃ q3, q3 < oz ∧ I1 q3 [.int .i64 (IntKind.i64.wrap (k1 + 1))] lj)) else (∃ (l1 : Int) (iy : World), (externCall g1 (jk.toList ++ ([] : List Value) ++ j3.toList).toArray).run Try.prog j6 = .ok (.int .i64 l1) iy ∧
 iy.cell? (blk w.heap.size) = some (.pointer nn) ∧
 Calls Try.prog 38 #[.pointer nn, .int .i64 l1] iy fun p3 o9 => ∃ (fv : Int), p3 = .returned (.int .i64 fv) ∧
 bif fv != 0 then (
 R (.int .i64 fv) o9) else (
 ∃ q5, q5 < oz ∧ I1 q5 [.int .i64 (IntKind.i64.wrap (k1 + 1))] o9))) else (
 thenW (g4.drew) fun e4 =>
 ∃ (py : Option Addr), e4.cell? (blk w.heap.size) = some (.pointer py) ∧
 ∃ (p6 : Option Addr), e4.cell? (blk w.heap.size) = some (.pointer p6) ∧
 ∃ (q2 : Int), e4.cell? (blk a2.heap.size) = some (.int .u32 q2) ∧
 ∃ (po : Option Addr), e4.cell? (blk ah.heap.size) = some (.pointer po) ∧
 py.elim False fun ps =>
 canStore e4 ((ps.add 2).add 0) ∧
 thenW (e4.setCell ((ps.add 2).add 0) (.int .u32 q2)) fun g2 =>
 g2.cell? (blk ah.heap.size) = some (.pointer po) ∧
 g2.cell? (blk w.heap.size) = some (.pointer p6) ∧
 p6.elim False fun pz =>
 canStore g2 ((pz.add 3).add 0) ∧
 thenW (g2.setCell ((pz.add 3).add 0) (.pointer po)) fun pa =>
 R (.int .i64 0) pa)) ∧
 (thenW (ah.alloc (.cells #[.int .i64 0] 26)) fun e3 =>
 thenW (e3.alloc (.cells #[.pointer none] 58)) fun kc =>
 canStore kc ((blk e3.heap.size).add 0) ∧
 thenW (kc.setCell ((blk e3.heap.size).add 0) (.pointer af)) fun lq =>
 canStore lq ((blk ah.heap.size).add 0) ∧
 thenW (lq.setCell ((blk ah.heap.size).add 0) (.int .i64 ag)) fun g6 =>
 ∃ (q0 : Option Addr), g6.cell? (blk w.heap.size) = some (.pointer q0) ∧
 q0.elim False fun qg =>
 ∃ (q7 : Option Addr), g6.cell? (qg.add 0) = some (.pointer q7) ∧
 thenW (g6.alloc (.cells #[.func (.func 30) #[] #[.pointer (some (blk ah.heap.size))], .func (.func 31) #[] #[.pointer (some (blk e3.heap.size)), .pointer (some (blk ct.heap.size))], .func (.func 33) #[] #[.pointer (some (blk w.heap.size)), .pointer (some (blk a2.heap.size))], .func (.func 37) #[.pointer q7] #[]] 68)) fun pm =>
 ∃ (I1 : Nat → List Value → World → Prop) (q9 : Nat), I1 q9 [.int .i64 0] pm ∧ ∀ (ph : Nat) (g5 : World) (ju : Int), I1 ph [.int .i64 ju] g5 →
 bif decide (ju < (4 : Int)) then (
 0 ≤ (ju : Int) ∧ (ju : Int) < (4 : Int) ∧
 ∃ (g3 : Nat) (k0 : Array Value) (jm : Array Value), g5.cell? ((blk g6.heap.size).add (Int.toNat ju * 1)) = some (.func (.func g3) k0 jm) ∧
 thenW (g5.drew) fun jb =>
 ∃ (mm : Option Addr), jb.cell? (blk w.heap.size) = some (.pointer mm) ∧
 bif enters Try.prog g3 then Calls Try.prog g3 (k0.toList ++ ([] : List Value) ++ jm.toList).toArray jb (fun pe lt => ∃ (lk : Int), pe = .returned (.int .i64 lk) ∧
 lt.cell? (blk w.heap.size) = some (.pointer mm) ∧
 Calls Try.prog 38 #[.pointer mm, .int .i64 lk] lt fun p1 l4 => ∃ (fq : Int), p1 = .returned (.int .i64 fq) ∧
 bif fq != 0 then (
 R (.int .i64 fq) l4) else (
 ∃ pt, pt < ph ∧ I1 pt [.int .i64 (IntKind.i64.wrap (ju + 1))] l4)) else (∃ (lk : Int) (j0 : World), (externCall g3 (k0.toList ++ ([] : List Value) ++ jm.toList).toArray).run Try.prog jb = .ok (.int .i64 lk) j0 ∧
 j0.cell? (blk w.heap.size) = some (.pointer mm) ∧
 Calls Try.prog 38 #[.pointer mm, .int .i64 lk] j0 fun lx i7 => ∃ (ch : Int), lx = .returned (.int .i64 ch) ∧
 bif ch != 0 then (
 R (.int .i64 ch) i7) else (
 ∃ n8, n8 < ph ∧ I1 n8 [.int .i64 (IntKind.i64.wrap (ju + 1))] i7))) else (
 thenW (g5.drew) fun bg =>
 ∃ (n6 : Option Addr), bg.cell? (blk w.heap.size) = some (.pointer n6) ∧
 ∃ (jw : Option Addr), bg.cell? (blk w.heap.size) = some (.pointer jw) ∧
 ∃ (mt : Int), bg.cell? (blk a2.heap.size) = some (.int .u32 mt) ∧
 ∃ (j1 : Option Addr), bg.cell? (blk e3.heap.size) = some (.pointer j1) ∧
 n6.elim False fun mi =>
 canStore bg ((mi.add 2).add 0) ∧
 thenW (bg.setCell ((mi.add 2).add 0) (.int .u32 mt)) fun e1 =>
 e1.cell? (blk e3.heap.size) = some (.pointer j1) ∧
 e1.cell? (blk w.heap.size) = some (.pointer jw) ∧
 jw.elim False fun mq =>
 canStore e1 ((mq.add 3).add 0) ∧
 thenW (e1.setCell ((mq.add 3).add 0) (.pointer j1)) fun k5 =>
 R (.int .i64 0) k5))) ∧
 (thenW (a3.alloc (.cells #[.pointer none] 58)) fun a8 =>
 a8.cell? (blk a2.heap.size) = some (.int .u32 aa) ∧
 a8.cell? (bu.add 1) = some (.int .i64 a0) ∧
 a8.cell? (blk w.heap.size) = some (.pointer bq) ∧
 a8.cell? (bt.add 0) = some (.pointer ac) ∧
 a8.cell? (blk w.heap.size) = some (.pointer bs) ∧
 (Calls Try.prog 29 #[.pointer ac, .int .i64 ab, .int .i64 a0, .int .u32 aa] a8 fun m8 du => ∃ (ar : Option Addr) (b4 : Int), m8 = .returned (.tuple #[.pointer ar, .int .i64 b4]) ∧
 thenW (du.alloc (.cells #[.int .i64 0] 26)) fun i2 =>
 canStore i2 ((blk a3.heap.size).add 0) ∧
 thenW (i2.setCell ((blk a3.heap.size).add 0) (.pointer ar)) fun i4 =>
 canStore i4 ((blk du.heap.size).add 0) ∧
 thenW (i4.setCell ((blk du.heap.size).add 0) (.int .i64 b4)) fun dx =>
 ∃ (lw : Option Addr), dx.cell? (blk w.heap.size) = some (.pointer lw) ∧
 lw.elim False fun pk =>
 ∃ (ns : Option Addr), dx.cell? (pk.add 0) = some (.pointer ns) ∧
 thenW (dx.alloc (.cells #[.func (.func 30) #[] #[.pointer (some (blk du.heap.size))], .func (.func 31) #[] #[.pointer (some (blk a3.heap.size)), .pointer (some (blk ct.heap.size))], .func (.func 33) #[] #[.pointer (some (blk w.heap.size)), .pointer (some (blk a2.heap.size))], .func (.func 37) #[.pointer ns] #[]] 68)) fun mo =>
 ∃ (I1 : Nat → List Value → World → Prop) (ox : Nat), I1 ox [.int .i64 0] mo ∧ ∀ (jp : Nat) (d3 : World) (bw : Int), I1 jp [.int .i64 bw] d3 →
 bif decide (bw < (4 : Int)) then (
 0 ≤ (bw : Int) ∧ (bw : Int) < (4 : Int) ∧
 ∃ (d7 : Nat) (ei : Array Value) (fb : Array Value), d3.cell? ((blk dx.heap.size).add (Int.toNat bw * 1)) = some (.func (.func d7) ei fb) ∧
 thenW (d3.drew) fun er =>
 ∃ (fg : Option Addr), er.cell? (blk w.heap.size) = some (.pointer fg) ∧
 bif enters Try.prog d7 then Calls Try.prog d7 (ei.toList ++ ([] : List Value) ++ fb.toList).toArray er (fun me gh => ∃ (e5 : Int), me = .returned (.int .i64 e5) ∧
 gh.cell? (blk w.heap.size) = some (.pointer fg) ∧
 Calls Try.prog 38 #[.pointer fg, .int .i64 e5] gh fun kb gs => ∃ (c6 : Int), kb = .returned (.int .i64 c6) ∧
 bif c6 != 0 then (
 R (.int .i64 c6) gs) else (
 ∃ nb, nb < jp ∧ I1 nb [.int .i64 (IntKind.i64.wrap (bw + 1))] gs)) else (∃ (e5 : Int) (ey : World), (externCall d7 (ei.toList ++ ([] : List Value) ++ fb.toList).toArray).run Try.prog er = .ok (.int .i64 e5) ey ∧
 ey.cell? (blk w.heap.size) = some (.pointer fg) ∧
 Calls Try.prog 38 #[.pointer fg, .int .i64 e5] ey fun m4 gb => ∃ (ca : Int), m4 = .returned (.int .i64 ca) ∧
 bif ca != 0 then (
 R (.int .i64 ca) gb) else (
 ∃ og, og < jp ∧ I1 og [.int .i64 (IntKind.i64.wrap (bw + 1))] gb))) else (
 thenW (d3.drew) fun bj =>
 ∃ (m5 : Option Addr), bj.cell? (blk w.heap.size) = some (.pointer m5) ∧
 ∃ (jv : Option Addr), bj.cell? (blk w.heap.size) = some (.pointer jv) ∧
 ∃ (oe : Int), bj.cell? (blk a2.heap.size) = some (.int .u32 oe) ∧
 ∃ (it : Option Addr), bj.cell? (blk a3.heap.size) = some (.pointer it) ∧
 m5.elim False fun lb =>
 canStore bj ((lb.add 2).add 0) ∧
 thenW (bj.setCell ((lb.add 2).add 0) (.int .u32 oe)) fun df =>
 df.cell? (blk a3.heap.size) = some (.pointer it) ∧
 df.cell? (blk w.heap.size) = some (.pointer jv) ∧
 jv.elim False fun m7 =>
 canStore df ((m7.add 3).add 0) ∧
 thenW (df.setCell ((m7.add 3).add 0) (.pointer it)) fun m2 =>
 R (.int .i64 0) m2)) ∧
 (thenW (a8.alloc (.cells #[.int .i64 0] 26)) fun ay =>
 ay.cell? (blk a2.heap.size) = some (.int .u32 aa) ∧
 ay.cell? (bu.add 1) = some (.int .i64 a0) ∧
 ay.cell? (blk w.heap.size) = some (.pointer bq) ∧
 ay.cell? (bt.add 0) = some (.pointer ac) ∧
 ay.cell? (blk w.heap.size) = some (.pointer bs) ∧
 Calls Try.prog 29 #[.pointer ac, .int .i64 ab, .int .i64 a0, .int .u32 aa] ay fun kx il => ∃ (ak : Option Addr) (bk : Int), kx = .returned (.tuple #[.pointer ak, .int .i64 bk]) ∧
 canStore il ((blk a3.heap.size).add 0) ∧
 thenW (il.setCell ((blk a3.heap.size).add 0) (.pointer ak)) fun gl =>
 canStore gl ((blk a8.heap.size).add 0) ∧
 thenW (gl.setCell ((blk a8.heap.size).add 0) (.int .i64 bk)) fun da =>
 ∃ (nl : Option Addr), da.cell? (blk w.heap.size) = some (.pointer nl) ∧
 nl.elim False fun p2 =>
 ∃ (km : Option Addr), da.cell? (p2.add 0) = some (.pointer km) ∧
 thenW (da.alloc (.cells #[.func (.func 30) #[] #[.pointer (some (blk a8.heap.size))], .func (.func 31) #[] #[.pointer (some (blk a3.heap.size)), .pointer (some (blk ct.heap.size))], .func (.func 33) #[] #[.pointer (some (blk w.heap.size)), .pointer (some (blk a2.heap.size))], .func (.func 37) #[.pointer km] #[]] 68)) fun nx =>
 ∃ (I1 : Nat → List Value → World → Prop) (p0 : Nat), I1 p0 [.int .i64 0] nx ∧ ∀ (jq : Nat) (dn : World) (cf : Int), I1 jq [.int .i64 cf] dn →
 bif decide (cf < (4 : Int)) then (
 0 ≤ (cf : Int) ∧ (cf : Int) < (4 : Int) ∧
 ∃ (ds : Nat) (f8 : Array Value) (eb : Array Value), dn.cell? ((blk da.heap.size).add (Int.toNat cf * 1)) = some (.func (.func ds) f8 eb) ∧
 thenW (dn.drew) fun fo =>
 ∃ (f3 : Option Addr), fo.cell? (blk w.heap.size) = some (.pointer f3) ∧
 bif enters Try.prog ds then Calls Try.prog ds (f8.toList ++ ([] : List Value) ++ eb.toList).toArray fo (fun l0 gp => ∃ (fu : Int), l0 = .returned (.int .i64 fu) ∧
 gp.cell? (blk w.heap.size) = some (.pointer f3) ∧
 Calls Try.prog 38 #[.pointer f3, .int .i64 fu] gp fun n4 i3 => ∃ (cn : Int), n4 = .returned (.int .i64 cn) ∧
 bif cn != 0 then (
 R (.int .i64 cn) i3) else (
 ∃ o1, o1 < jq ∧ I1 o1 [.int .i64 (IntKind.i64.wrap (cf + 1))] i3)) else (∃ (fu : Int) (e7 : World), (externCall ds (f8.toList ++ ([] : List Value) ++ eb.toList).toArray).run Try.prog fo = .ok (.int .i64 fu) e7 ∧
 e7.cell? (blk w.heap.size) = some (.pointer f3) ∧
 Calls Try.prog 38 #[.pointer f3, .int .i64 fu] e7 fun om gi => ∃ (cg : Int), om = .returned (.int .i64 cg) ∧
 bif cg != 0 then (
 R (.int .i64 cg) gi) else (
 ∃ nu, nu < jq ∧ I1 nu [.int .i64 (IntKind.i64.wrap (cf + 1))] gi))) else (
 thenW (dn.drew) fun bb =>
 ∃ (mb : Option Addr), bb.cell? (blk w.heap.size) = some (.pointer mb) ∧
 ∃ (jd : Option Addr), bb.cell? (blk w.heap.size) = some (.pointer jd) ∧
 ∃ (o3 : Int), bb.cell? (blk a2.heap.size) = some (.int .u32 o3) ∧
 ∃ (jg : Option Addr), bb.cell? (blk a3.heap.size) = some (.pointer jg) ∧
 mb.elim False fun nd =>
 canStore bb ((nd.add 2).add 0) ∧
 thenW (bb.setCell ((nd.add 2).add 0) (.int .u32 o3)) fun d4 =>
 d4.cell? (blk a3.heap.size) = some (.pointer jg) ∧
 d4.cell? (blk w.heap.size) = some (.pointer jd) ∧
 jd.elim False fun ka =>
 canStore d4 ((ka.add 3).add 0) ∧
 thenW (d4.setCell ((ka.add 3).add 0) (.pointer jg)) fun mf =>
 R (.int .i64 0) mf))) ∧
 (thenW (a3.alloc (.cells #[.int .i64 0] 26)) fun a5 =>
 a5.cell? (blk a2.heap.size) = some (.int .u32 aa) ∧
 a5.cell? (bu.add 1) = some (.int .i64 a0) ∧
 a5.cell? (blk w.heap.size) = some (.pointer bq) ∧
 a5.cell? (bt.add 0) = some (.pointer ac) ∧
 a5.cell? (blk w.heap.size) = some (.pointer bs) ∧
 (Calls Try.prog 29 #[.pointer ac, .int .i64 ab, .int .i64 a0, .int .u32 aa] a5 fun m0 bi => ∃ (b5 : Option Addr) (ax : Int), m0 = .returned (.tuple #[.pointer b5, .int .i64 ax]) ∧
 thenW (bi.alloc (.cells #[.pointer none] 58)) fun gr =>
 canStore gr ((blk bi.heap.size).add 0) ∧
 thenW (gr.setCell ((blk bi.heap.size).add 0) (.pointer b5)) fun gv =>
 canStore gv ((blk a3.heap.size).add 0) ∧
 thenW (gv.setCell ((blk a3.heap.size).add 0) (.int .i64 ax)) fun dk =>
 ∃ (lh : Option Addr), dk.cell? (blk w.heap.size) = some (.pointer lh) ∧
 lh.elim False fun ot =>
 ∃ (kz : Option Addr), dk.cell? (ot.add 0) = some (.pointer kz) ∧
 thenW (dk.alloc (.cells #[.func (.func 30) #[] #[.pointer (some (blk a3.heap.size))], .func (.func 31) #[] #[.pointer (some (blk bi.heap.size)), .pointer (some (blk ct.heap.size))], .func (.func 33) #[] #[.pointer (some (blk w.heap.size)), .pointer (some (blk a2.heap.size))], .func (.func 37) #[.pointer kz] #[]] 68)) fun nz =>
 ∃ (I1 : Nat → List Value → World → Prop) (p5 : Nat), I1 p5 [.int .i64 0] nz ∧ ∀ (iv : Nat) (d1 : World) (cc : Int), I1 iv [.int .i64 cc] d1 →
 bif decide (cc < (4 : Int)) then (
 0 ≤ (cc : Int) ∧ (cc : Int) < (4 : Int) ∧
 ∃ (dt : Nat) (fh : Array Value) (fr : Array Value), d1.cell? ((blk dk.heap.size).add (Int.toNat cc * 1)) = some (.func (.func dt) fh fr) ∧
 thenW (d1.drew) fun fy =>
 ∃ (fc : Option Addr), fy.cell? (blk w.heap.size) = some (.pointer fc) ∧
 bif enters Try.prog dt then Calls Try.prog dt (fh.toList ++ ([] : List Value) ++ fr.toList).toArray fy (fun mk iq => ∃ (fe : Int), mk = .returned (.int .i64 fe) ∧
 iq.cell? (blk w.heap.size) = some (.pointer fc) ∧
 Calls Try.prog 38 #[.pointer fc, .int .i64 fe] iq fun ny gd => ∃ (cb : Int), ny = .returned (.int .i64 cb) ∧
 bif cb != 0 then (
 R (.int .i64 cb) gd) else (
 ∃ o4, o4 < iv ∧ I1 o4 [.int .i64 (IntKind.i64.wrap (cc + 1))] gd)) else (∃ (fe : Int) (e8 : World), (externCall dt (fh.toList ++ ([] : List Value) ++ fr.toList).toArray).run Try.prog fy = .ok (.int .i64 fe) e8 ∧
 e8.cell? (blk w.heap.size) = some (.pointer fc) ∧
 Calls Try.prog 38 #[.pointer fc, .int .i64 fe] e8 fun kf ip => ∃ (cm : Int), kf = .returned (.int .i64 cm) ∧
 bif cm != 0 then (
 R (.int .i64 cm) ip) else (
 ∃ ng, ng < iv ∧ I1 ng [.int .i64 (IntKind.i64.wrap (cc + 1))] ip))) else (
 thenW (d1.drew) fun be =>
 ∃ (lo : Option Addr), be.cell? (blk w.heap.size) = some (.pointer lo) ∧
 ∃ (jz : Option Addr), be.cell? (blk w.heap.size) = some (.pointer jz) ∧
 ∃ (ol : Int), be.cell? (blk a2.heap.size) = some (.int .u32 ol) ∧
 ∃ (jr : Option Addr), be.cell? (blk bi.heap.size) = some (.pointer jr) ∧
 lo.elim False fun nr =>
 canStore be ((nr.add 2).add 0) ∧
 thenW (be.setCell ((nr.add 2).add 0) (.int .u32 ol)) fun d5 =>
 d5.cell? (blk bi.heap.size) = some (.pointer jr) ∧
 d5.cell? (blk w.heap.size) = some (.pointer jz) ∧
 jz.elim False fun k4 =>
 canStore d5 ((k4.add 3).add 0) ∧
 thenW (d5.setCell ((k4.add 3).add 0) (.pointer jr)) fun kk =>
 R (.int .i64 0) kk)) ∧
 (thenW (a5.alloc (.cells #[.pointer none] 58)) fun aq =>
 aq.cell? (blk a2.heap.size) = some (.int .u32 aa) ∧
 aq.cell? (bu.add 1) = some (.int .i64 a0) ∧
 aq.cell? (blk w.heap.size) = some (.pointer bq) ∧
 aq.cell? (bt.add 0) = some (.pointer ac) ∧
 aq.cell? (blk w.heap.size) = some (.pointer bs) ∧
 Calls Try.prog 29 #[.pointer ac, .int .i64 ab, .int .i64 a0, .int .u32 aa] aq fun mc g9 => ∃ (ap : Option Addr) (b2 : Int), mc = .returned (.tuple #[.pointer ap, .int .i64 b2]) ∧
 canStore g9 ((blk a5.heap.size).add 0) ∧
 thenW (g9.setCell ((blk a5.heap.size).add 0) (.pointer ap)) fun i5 =>
 canStore i5 ((blk a3.heap.size).add 0) ∧
 thenW (i5.setCell ((blk a3.heap.size).add 0) (.int .i64 b2)) fun de =>
 ∃ (l6 : Option Addr), de.cell? (blk w.heap.size) = some (.pointer l6) ∧
 l6.elim False fun pf =>
 ∃ (oa : Option Addr), de.cell? (pf.add 0) = some (.pointer oa) ∧
 thenW (de.alloc (.cells #[.func (.func 30) #[] #[.pointer (some (blk a3.heap.size))], .func (.func 31) #[] #[.pointer (some (blk a5.heap.size)), .pointer (some (blk ct.heap.size))], .func (.func 33) #[] #[.pointer (some (blk w.heap.size)), .pointer (some (blk a2.heap.size))], .func (.func 37) #[.pointer oa] #[]] 68)) fun kg =>
 ∃ (I1 : Nat → List Value → World → Prop) (pd : Nat), I1 pd [.int .i64 0] kg ∧ ∀ (jf : Nat) (dv : World) (c7 : Int), I1 jf [.int .i64 c7] dv →
 bif decide (c7 < (4 : Int)) then (
 0 ≤ (c7 : Int) ∧ (c7 : Int) < (4 : Int) ∧
 ∃ (d9 : Nat) (f9 : Array Value) (ft : Array Value), dv.cell? ((blk de.heap.size).add (Int.toNat c7 * 1)) = some (.func (.func d9) f9 ft) ∧
 thenW (dv.drew) fun ek =>
 ∃ (f0 : Option Addr), ek.cell? (blk w.heap.size) = some (.pointer f0) ∧
 bif enters Try.prog d9 then Calls Try.prog d9 (f9.toList ++ ([] : List Value) ++ ft.toList).toArray ek (fun l9 ii => ∃ (fl : Int), l9 = .returned (.int .i64 fl) ∧
 ii.cell? (blk w.heap.size) = some (.pointer f0) ∧
 Calls Try.prog 38 #[.pointer f0, .int .i64 fl] ii fun oo gc => ∃ (c4 : Int), oo = .returned (.int .i64 c4) ∧
 bif c4 != 0 then (
 R (.int .i64 c4) gc) else (
 ∃ n3, n3 < jf ∧ I1 n3 [.int .i64 (IntKind.i64.wrap (c7 + 1))] gc)) else (∃ (fl : Int) (f2 : World), (externCall d9 (f9.toList ++ ([] : List Value) ++ ft.toList).toArray).run Try.prog ek = .ok (.int .i64 fl) f2 ∧
 f2.cell? (blk w.heap.size) = some (.pointer f0) ∧
 Calls Try.prog 38 #[.pointer f0, .int .i64 fl] f2 fun o8 gy => ∃ (ci : Int), o8 = .returned (.int .i64 ci) ∧
 bif ci != 0 then (
 R (.int .i64 ci) gy) else (
 ∃ od, od < jf ∧ I1 od [.int .i64 (IntKind.i64.wrap (c7 + 1))] gy))) else (
 thenW (dv.drew) fun ai =>
 ∃ (ko : Option Addr), ai.cell? (blk w.heap.size) = some (.pointer ko) ∧
 ∃ (jh : Option Addr), ai.cell? (blk w.heap.size) = some (.pointer jh) ∧
 ∃ (ms : Int), ai.cell? (blk a2.heap.size) = some (.int .u32 ms) ∧
 ∃ (jy : Option Addr), ai.cell? (blk a5.heap.size) = some (.pointer jy) ∧
 ko.elim False fun mw =>
 canStore ai ((mw.add 2).add 0) ∧
 thenW (ai.setCell ((mw.add 2).add 0) (.int .u32 ms)) fun db =>
 db.cell? (blk a5.heap.size) = some (.pointer jy) ∧
 db.cell? (blk w.heap.size) = some (.pointer jh) ∧
 jh.elim False fun m3 =>
 canStore db ((m3.add 3).add 0) ∧
 thenW (db.setCell ((m3.add 3).add 0) (.pointer jy)) fun oc =>
 R (.int .i64 0) oc)))) ∧
 (thenW (a1.alloc (.cells #[.pointer none] 58)) fun a6 =>
 a6.cell? (blk a2.heap.size) = some (.int .u32 aa) ∧
 a6.cell? (bu.add 1) = some (.int .i64 a0) ∧
 a6.cell? (blk w.heap.size) = some (.pointer bq) ∧
 a6.cell? (blk a2.heap.size) = some (.int .u32 fz) ∧
 a6.cell? (blk w.heap.size) = some (.pointer g0) ∧
 a6.cell? (bt.add 0) = some (.pointer ac) ∧
 a6.cell? (blk w.heap.size) = some (.pointer bs) ∧
 (Calls Try.prog 27 #[.pointer g0, .int .u32 fz] a6 fun nw a9 => ∃ (bn : Int), nw = .returned (.int .i64 bn) ∧
 a9.cell? (blk a2.heap.size) = some (.int .u32 aa) ∧
 a9.cell? (bu.add 1) = some (.int .i64 a0) ∧
 a9.cell? (blk w.heap.size) = some (.pointer bq) ∧
 a9.cell? (bt.add 0) = some (.pointer ac) ∧
 a9.cell? (blk w.heap.size) = some (.pointer bs) ∧
 (Calls Try.prog 29 #[.pointer ac, .int .i64 bn, .int .i64 a0, .int .u32 aa] a9 fun kh dc => ∃ (b3 : Option Addr) (av : Int), kh = .returned (.tuple #[.pointer b3, .int .i64 av]) ∧
 thenW (dc.alloc (.cells #[.int .i64 0] 26)) fun gg =>
 canStore gg ((blk a1.heap.size).add 0) ∧
 thenW (gg.setCell ((blk a1.heap.size).add 0) (.pointer b3)) fun ih =>
 canStore ih ((blk dc.heap.size).add 0) ∧
 thenW (ih.setCell ((blk dc.heap.size).add 0) (.int .i64 av)) fun cu =>
 ∃ (l7 : Option Addr), cu.cell? (blk w.heap.size) = some (.pointer l7) ∧
 l7.elim False fun oy =>
 ∃ (ls : Option Addr), cu.cell? (oy.add 0) = some (.pointer ls) ∧
 thenW (cu.alloc (.cells #[.func (.func 30) #[] #[.pointer (some (blk dc.heap.size))], .func (.func 31) #[] #[.pointer (some (blk a1.heap.size)), .pointer (some (blk ct.heap.size))], .func (.func 33) #[] #[.pointer (some (blk w.heap.size)), .pointer (some (blk a2.heap.size))], .func (.func 37) #[.pointer ls] #[]] 68)) fun mp =>
 ∃ (I1 : Nat → List Value → World → Prop) (ow : Nat), I1 ow [.int .i64 0] mp ∧ ∀ (jn : Nat) (cy : World) (cj : Int), I1 jn [.int .i64 cj] cy →
 bif decide (cj < (4 : Int)) then (
 0 ≤ (cj : Int) ∧ (cj : Int) < (4 : Int) ∧
 ∃ (dl : Nat) (eg : Array Value) (ea : Array Value), cy.cell? ((blk cu.heap.size).add (Int.toNat cj * 1)) = some (.func (.func dl) eg ea) ∧
 thenW (cy.drew) fun ew =>
 ∃ (fk : Option Addr), ew.cell? (blk w.heap.size) = some (.pointer fk) ∧
 bif enters Try.prog dl then Calls Try.prog dl (eg.toList ++ ([] : List Value) ++ ea.toList).toArray ew (fun oh ij => ∃ (el : Int), oh = .returned (.int .i64 el) ∧
 ij.cell? (blk w.heap.size) = some (.pointer fk) ∧
 Calls Try.prog 38 #[.pointer fk, .int .i64 el] ij fun la gw => ∃ (cd : Int), la = .returned (.int .i64 cd) ∧
 bif cd != 0 then (
 R (.int .i64 cd) gw) else (
 ∃ k2, k2 < jn ∧ I1 k2 [.int .i64 (IntKind.i64.wrap (cj + 1))] gw)) else (∃ (el : Int) (fp : World), (externCall dl (eg.toList ++ ([] : List Value) ++ ea.toList).toArray).run Try.prog ew = .ok (.int .i64 el) fp ∧
 fp.cell? (blk w.heap.size) = some (.pointer fk) ∧
 Calls Try.prog 38 #[.pointer fk, .int .i64 el] fp fun mu im => ∃ (cr : Int), mu = .returned (.int .i64 cr) ∧
 bif cr != 0 then (
 R (.int .i64 cr) im) else (
 ∃ ll, ll < jn ∧ I1 ll [.int .i64 (IntKind.i64.wrap (cj + 1))] im))) else (
 thenW (cy.drew) fun bf =>
 ∃ (lf : Option Addr), bf.cell? (blk w.heap.size) = some (.pointer lf) ∧
 ∃ (ix : Option Addr), bf.cell? (blk w.heap.size) = some (.pointer ix) ∧
 ∃ (nh : Int), bf.cell? (blk a2.heap.size) = some (.int .u32 nh) ∧
 ∃ (jc : Option Addr), bf.cell? (blk a1.heap.size) = some (.pointer jc) ∧
 lf.elim False fun oj =>
 canStore bf ((oj.add 2).add 0) ∧
 thenW (bf.setCell ((oj.add 2).add 0) (.int .u32 nh)) fun di =>
 di.cell? (blk a1.heap.size) = some (.pointer jc) ∧
 di.cell? (blk w.heap.size) = some (.pointer ix) ∧
 ix.elim False fun ki =>
 canStore di ((ki.add 3).add 0) ∧
 thenW (di.setCell ((ki.add 3).add 0) (.pointer jc)) fun n0 =>
 R (.int .i64 0) n0)) ∧
 (thenW (a9.alloc (.cells #[.int .i64 0] 26)) fun ao =>
 ao.cell? (blk a2.heap.size) = some (.int .u32 aa) ∧
 ao.cell? (bu.add 1) = some (.int .i64 a0) ∧
 ao.cell? (blk w.heap.size) = some (.pointer bq) ∧
 ao.cell? (bt.add 0) = some (.pointer ac) ∧
 ao.cell? (blk w.heap.size) = some (.pointer bs) ∧
 Calls Try.prog 29 #[.pointer ac, .int .i64 bn, .int .i64 a0, .int .u32 aa] ao fun ni gf => ∃ (b0 : Option Addr) (bl : Int), ni = .returned (.tuple #[.pointer b0, .int .i64 bl]) ∧
 canStore gf ((blk a1.heap.size).add 0) ∧
 thenW (gf.setCell ((blk a1.heap.size).add 0) (.pointer b0)) fun i9 =>
 canStore i9 ((blk a9.heap.size).add 0) ∧
 thenW (i9.setCell ((blk a9.heap.size).add 0) (.int .i64 bl)) fun d2 =>
 ∃ (n5 : Option Addr), d2.cell? (blk w.heap.size) = some (.pointer n5) ∧
 n5.elim False fun pb =>
 ∃ (lp : Option Addr), d2.cell? (pb.add 0) = some (.pointer lp) ∧
 thenW (d2.alloc (.cells #[.func (.func 30) #[] #[.pointer (some (blk a9.heap.size))], .func (.func 31) #[] #[.pointer (some (blk a1.heap.size)), .pointer (some (blk ct.heap.size))], .func (.func 33) #[] #[.pointer (some (blk w.heap.size)), .pointer (some (blk a2.heap.size))], .func (.func 37) #[.pointer lp] #[]] 68)) fun o2 =>
 ∃ (I1 : Nat → List Value → World → Prop) (ou : Nat), I1 ou [.int .i64 0] o2 ∧ ∀ (jx : Nat) (dr : World) (c8 : Int), I1 jx [.int .i64 c8] dr →
 bif decide (c8 < (4 : Int)) then (
 0 ≤ (c8 : Int) ∧ (c8 : Int) < (4 : Int) ∧
 ∃ (dy : Nat) (f7 : Array Value) (f4 : Array Value), dr.cell? ((blk d2.heap.size).add (Int.toNat c8 * 1)) = some (.func (.func dy) f7 f4) ∧
 thenW (dr.drew) fun e6 =>
 ∃ (fj : Option Addr), e6.cell? (blk w.heap.size) = some (.pointer fj) ∧
 bif enters Try.prog dy then Calls Try.prog dy (f7.toList ++ ([] : List Value) ++ f4.toList).toArray e6 (fun n9 ia => ∃ (es : Int), n9 = .returned (.int .i64 es) ∧
 ia.cell? (blk w.heap.size) = some (.pointer fj) ∧
 Calls Try.prog 38 #[.pointer fj, .int .i64 es] ia fun ks i1 => ∃ (bx : Int), ks = .returned (.int .i64 bx) ∧
 bif bx != 0 then (
 R (.int .i64 bx) i1) else (
 ∃ o7, o7 < jx ∧ I1 o7 [.int .i64 (IntKind.i64.wrap (c8 + 1))] i1)) else (∃ (es : Int) (en : World), (externCall dy (f7.toList ++ ([] : List Value) ++ f4.toList).toArray).run Try.prog e6 = .ok (.int .i64 es) en ∧
 en.cell? (blk w.heap.size) = some (.pointer fj) ∧
 Calls Try.prog 38 #[.pointer fj, .int .i64 es] en fun kp ik => ∃ (bz : Int), kp = .returned (.int .i64 bz) ∧
 bif bz != 0 then (
 R (.int .i64 bz) ik) else (
 ∃ ly, ly < jx ∧ I1 ly [.int .i64 (IntKind.i64.wrap (c8 + 1))] ik))) else (
 thenW (dr.drew) fun az =>
 ∃ (kn : Option Addr), az.cell? (blk w.heap.size) = some (.pointer kn) ∧
 ∃ (jo : Option Addr), az.cell? (blk w.heap.size) = some (.pointer jo) ∧
 ∃ (l2 : Int), az.cell? (blk a2.heap.size) = some (.int .u32 l2) ∧
 ∃ (js : Option Addr), az.cell? (blk a1.heap.size) = some (.pointer js) ∧
 kn.elim False fun op =>
 canStore az ((op.add 2).add 0) ∧
 thenW (az.setCell ((op.add 2).add 0) (.int .u32 l2)) fun cs =>
 cs.cell? (blk a1.heap.size) = some (.pointer js) ∧
 cs.cell? (blk w.heap.size) = some (.pointer jo) ∧
 jo.elim False fun lc =>
 canStore cs ((lc.add 3).add 0) ∧
 thenW (cs.setCell ((lc.add 3).add 0) (.pointer js)) fun kw =>
 R (.int .i64 0) kw))) ∧
 (thenW (a6.alloc (.cells #[.int .i64 0] 26)) fun ae =>
 ae.cell? (blk a2.heap.size) = some (.int .u32 aa) ∧
 ae.cell? (bu.add 1) = some (.int .i64 a0) ∧
 ae.cell? (blk w.heap.size) = some (.pointer bq) ∧
 ae.cell? (blk a2.heap.size) = some (.int .u32 fz) ∧
 ae.cell? (blk w.heap.size) = some (.pointer g0) ∧
 ae.cell? (bt.add 0) = some (.pointer ac) ∧
 ae.cell? (blk w.heap.size) = some (.pointer bs) ∧
 Calls Try.prog 27 #[.pointer g0, .int .u32 fz] ae fun li ba => ∃ (dw : Int), li = .returned (.int .i64 dw) ∧
 ba.cell? (blk a2.heap.size) = some (.int .u32 aa) ∧
 ba.cell? (bu.add 1) = some (.int .i64 a0) ∧
 ba.cell? (blk w.heap.size) = some (.pointer bq) ∧
 ba.cell? (bt.add 0) = some (.pointer ac) ∧
 ba.cell? (blk w.heap.size) = some (.pointer bs) ∧
 Calls Try.prog 29 #[.pointer ac, .int .i64 dw, .int .i64 a0, .int .u32 aa] ba fun oi ib => ∃ (bh : Option Addr) (b7 : Int), oi = .returned (.tuple #[.pointer bh, .int .i64 b7]) ∧
 canStore ib ((blk a1.heap.size).add 0) ∧
 thenW (ib.setCell ((blk a1.heap.size).add 0) (.pointer bh)) fun gu =>
 canStore gu ((blk a6.heap.size).add 0) ∧
 thenW (gu.setCell ((blk a6.heap.size).add 0) (.int .i64 b7)) fun e2 =>
 ∃ (m9 : Option Addr), e2.cell? (blk w.heap.size) = some (.pointer m9) ∧
 m9.elim False fun pq =>
 ∃ (kq : Option Addr), e2.cell? (pq.add 0) = some (.pointer kq) ∧
 thenW (e2.alloc (.cells #[.func (.func 30) #[] #[.pointer (some (blk a6.heap.size))], .func (.func 31) #[] #[.pointer (some (blk a1.heap.size)), .pointer (some (blk ct.heap.size))], .func (.func 33) #[] #[.pointer (some (blk w.heap.size)), .pointer (some (blk a2.heap.size))], .func (.func 37) #[.pointer kq] #[]] 68)) fun mg =>
 ∃ (I1 : Nat → List Value → World → Prop) (pl : Nat), I1 pl [.int .i64 0] mg ∧ ∀ (j8 : Nat) (dh : World) (c1 : Int), I1 j8 [.int .i64 c1] dh →
 bif decide (c1 < (4 : Int)) then (
 0 ≤ (c1 : Int) ∧ (c1 : Int) < (4 : Int) ∧
 ∃ (cz : Nat) (e9 : Array Value) (fw : Array Value), dh.cell? ((blk e2.heap.size).add (Int.toNat c1 * 1)) = some (.func (.func cz) e9 fw) ∧
 thenW (dh.drew) fun ez =>
 ∃ (ec : Option Addr), ez.cell? (blk w.heap.size) = some (.pointer ec) ∧
 bif enters Try.prog cz then Calls Try.prog cz (e9.toList ++ ([] : List Value) ++ fw.toList).toArray ez (fun kr i0 => ∃ (f6 : Int), kr = .returned (.int .i64 f6) ∧
 i0.cell? (blk w.heap.size) = some (.pointer ec) ∧
 Calls Try.prog 38 #[.pointer ec, .int .i64 f6] i0 fun o0 ga => ∃ (ce : Int), o0 = .returned (.int .i64 ce) ∧
 bif ce != 0 then (
 R (.int .i64 ce) ga) else (
 ∃ nm, nm < j8 ∧ I1 nm [.int .i64 (IntKind.i64.wrap (c1 + 1))] ga)) else (∃ (f6 : Int) (fd : World), (externCall cz (e9.toList ++ ([] : List Value) ++ fw.toList).toArray).run Try.prog ez = .ok (.int .i64 f6) fd ∧
 fd.cell? (blk w.heap.size) = some (.pointer ec) ∧
 Calls Try.prog 38 #[.pointer ec, .int .i64 f6] fd fun np gm => ∃ (c0 : Int), np = .returned (.int .i64 c0) ∧
 bif c0 != 0 then (
 R (.int .i64 c0) gm) else (
 ∃ mz, mz < j8 ∧ I1 mz [.int .i64 (IntKind.i64.wrap (c1 + 1))] gm))) else (
 thenW (dh.drew) fun bd =>
 ∃ (ml : Option Addr), bd.cell? (blk w.heap.size) = some (.pointer ml) ∧
 ∃ (j4 : Option Addr), bd.cell? (blk w.heap.size) = some (.pointer j4) ∧
 ∃ (m1 : Int), bd.cell? (blk a2.heap.size) = some (.int .u32 m1) ∧
 ∃ (je : Option Addr), bd.cell? (blk a1.heap.size) = some (.pointer je) ∧
 ml.elim False fun lr =>
 canStore bd ((lr.add 2).add 0) ∧
 thenW (bd.setCell ((lr.add 2).add 0) (.int .u32 m1)) fun d8 =>
 d8.cell? (blk a1.heap.size) = some (.pointer je) ∧
 d8.cell? (blk w.heap.size) = some (.pointer j4) ∧
 j4.elim False fun n7 =>
 canStore d8 ((n7.add 3).add 0) ∧
 thenW (d8.setCell ((n7.add 3).add 0) (.pointer je)) fun n1 =>
 R (.int .i64 0) n1))) ∧
 (thenW (a1.alloc (.cells #[.int .i64 0] 26)) fun a4 =>
 a4.cell? (blk a2.heap.size) = some (.int .u32 aa) ∧
 a4.cell? (bu.add 1) = some (.int .i64 a0) ∧
 a4.cell? (blk w.heap.size) = some (.pointer bq) ∧
 a4.cell? (blk a2.heap.size) = some (.int .u32 fz) ∧
 a4.cell? (blk w.heap.size) = some (.pointer g0) ∧
 a4.cell? (bt.add 0) = some (.pointer ac) ∧
 a4.cell? (blk w.heap.size) = some (.pointer bs) ∧
 (Calls Try.prog 27 #[.pointer g0, .int .u32 fz] a4 fun kt a7 => ∃ (bo : Int), kt = .returned (.int .i64 bo) ∧
 a7.cell? (blk a2.heap.size) = some (.int .u32 aa) ∧
 a7.cell? (bu.add 1) = some (.int .i64 a0) ∧
 a7.cell? (blk w.heap.size) = some (.pointer bq) ∧
 a7.cell? (bt.add 0) = some (.pointer ac) ∧
 a7.cell? (blk w.heap.size) = some (.pointer bs) ∧
 (Calls Try.prog 29 #[.pointer ac, .int .i64 bo, .int .i64 a0, .int .u32 aa] a7 fun nt b6 => ∃ (al : Option Addr) (bm : Int), nt = .returned (.tuple #[.pointer al, .int .i64 bm]) ∧
 thenW (b6.alloc (.cells #[.pointer none] 58)) fun gt =>
 canStore gt ((blk b6.heap.size).add 0) ∧
 thenW (gt.setCell ((blk b6.heap.size).add 0) (.pointer al)) fun io =>
 canStore io ((blk a1.heap.size).add 0) ∧
 thenW (io.setCell ((blk a1.heap.size).add 0) (.int .i64 bm)) fun dm =>
 ∃ (nj : Option Addr), dm.cell? (blk w.heap.size) = some (.pointer nj) ∧
 nj.elim False fun p9 =>
 ∃ (lu : Option Addr), dm.cell? (p9.add 0) = some (.pointer lu) ∧
 thenW (dm.alloc (.cells #[.func (.func 30) #[] #[.pointer (some (blk a1.heap.size))], .func (.func 31) #[] #[.pointer (some (blk b6.heap.size)), .pointer (some (blk ct.heap.size))], .func (.func 33) #[] #[.pointer (some (blk w.heap.size)), .pointer (some (blk a2.heap.size))], .func (.func 37) #[.pointer lu] #[]] 68)) fun ln =>
 ∃ (I1 : Nat → List Value → World → Prop) (pn : Nat), I1 pn [.int .i64 0] ln ∧ ∀ (j7 : Nat) (dp : World) (co : Int), I1 j7 [.int .i64 co] dp →
 bif decide (co < (4 : Int)) then (
 0 ≤ (co : Int) ∧ (co : Int) < (4 : Int) ∧
 ∃ (dj : Nat) (f1 : Array Value) (fa : Array Value), dp.cell? ((blk dm.heap.size).add (Int.toNat co * 1)) = some (.func (.func dj) f1 fa) ∧
 thenW (dp.drew) fun ex =>
 ∃ (eh : Option Addr), ex.cell? (blk w.heap.size) = some (.pointer eh) ∧
 bif enters Try.prog dj then Calls Try.prog dj (f1.toList ++ ([] : List Value) ++ fa.toList).toArray ex (fun mn i8 => ∃ (ef : Int), mn = .returned (.int .i64 ef) ∧
 i8.cell? (blk w.heap.size) = some (.pointer eh) ∧
 Calls Try.prog 38 #[.pointer eh, .int .i64 ef] i8 fun kd gz => ∃ (c2 : Int), kd = .returned (.int .i64 c2) ∧
 bif c2 != 0 then (
 R (.int .i64 c2) gz) else (
 ∃ kj, kj < j7 ∧ I1 kj [.int .i64 (IntKind.i64.wrap (co + 1))] gz)) else (∃ (ef : Int) (fi : World), (externCall dj (f1.toList ++ ([] : List Value) ++ fa.toList).toArray).run Try.prog ex = .ok (.int .i64 ef) fi ∧
 fi.cell? (blk w.heap.size) = some (.pointer eh) ∧
 Calls Try.prog 38 #[.pointer eh, .int .i64 ef] fi fun nf ge => ∃ (cp : Int), nf = .returned (.int .i64 cp) ∧
 bif cp != 0 then (
 R (.int .i64 cp) ge) else (
 ∃ na, na < j7 ∧ I1 na [.int .i64 (IntKind.i64.wrap (co + 1))] ge))) else (
 thenW (dp.drew) fun au =>
 ∃ (l5 : Option Addr), au.cell? (blk w.heap.size) = some (.pointer l5) ∧
 ∃ (j5 : Option Addr), au.cell? (blk w.heap.size) = some (.pointer j5) ∧
 ∃ (l8 : Int), au.cell? (blk a2.heap.size) = some (.int .u32 l8) ∧
 ∃ (iw : Option Addr), au.cell? (blk b6.heap.size) = some (.pointer iw) ∧
 l5.elim False fun nc =>
 canStore au ((nc.add 2).add 0) ∧
 thenW (au.setCell ((nc.add 2).add 0) (.int .u32 l8)) fun d0 =>
 d0.cell? (blk b6.heap.size) = some (.pointer iw) ∧
 d0.cell? (blk w.heap.size) = some (.pointer j5) ∧
 j5.elim False fun k7 =>
 canStore d0 ((k7.add 3).add 0) ∧
 thenW (d0.setCell ((k7.add 3).add 0) (.pointer iw)) fun l3 =>
 R (.int .i64 0) l3)) ∧
 (thenW (a7.alloc (.cells #[.pointer none] 58)) fun b9 =>
 b9.cell? (blk a2.heap.size) = some (.int .u32 aa) ∧
 b9.cell? (bu.add 1) = some (.int .i64 a0) ∧
 b9.cell? (blk w.heap.size) = some (.pointer bq) ∧
 b9.cell? (bt.add 0) = some (.pointer ac) ∧
 b9.cell? (blk w.heap.size) = some (.pointer bs) ∧
 Calls Try.prog 29 #[.pointer ac, .int .i64 bo, .int .i64 a0, .int .u32 aa] b9 fun lz gn => ∃ (am : Option Addr) (b8 : Int), lz = .returned (.tuple #[.pointer am, .int .i64 b8]) ∧
 canStore gn ((blk a7.heap.size).add 0) ∧
 thenW (gn.setCell ((blk a7.heap.size).add 0) (.pointer am)) fun gx =>
 canStore gx ((blk a1.heap.size).add 0) ∧
 thenW (gx.setCell ((blk a1.heap.size).add 0) (.int .i64 b8)) fun cx =>
 ∃ (kl : Option Addr), cx.cell? (blk w.heap.size) = some (.pointer kl) ∧
 kl.elim False fun pp =>
 ∃ (mr : Option Addr), cx.cell? (pp.add 0) = some (.pointer mr) ∧
 thenW (cx.alloc (.cells #[.func (.func 30) #[] #[.pointer (some (blk a1.heap.size))], .func (.func 31) #[] #[.pointer (some (blk a7.heap.size)), .pointer (some (blk ct.heap.size))], .func (.func 33) #[] #[.pointer (some (blk w.heap.size)), .pointer (some (blk a2.heap.size))], .func (.func 37) #[.pointer mr] #[]] 68)) fun ky =>
 ∃ (I1 : Nat → List Value → World → Prop) (pj : Nat), I1 pj [.int .i64 0] ky ∧ ∀ (jj : Nat) (d6 : World) (cl : Int), I1 jj [.int .i64 cl] d6 →
 bif decide (cl < (4 : Int)) then (
 0 ≤ (cl : Int) ∧ (cl : Int) < (4 : Int) ∧
 ∃ (cw : Nat) (fm : Array Value) (ep : Array Value), d6.cell? ((blk cx.heap.size).add (Int.toNat cl * 1)) = some (.func (.func cw) fm ep) ∧
 thenW (d6.drew) fun eu =>
 ∃ (em : Option Addr), eu.cell? (blk w.heap.size) = some (.pointer em) ∧
 bif enters Try.prog cw then Calls Try.prog cw (fm.toList ++ ([] : List Value) ++ ep.toList).toArray eu (fun ku ir => ∃ (eo : Int), ku = .returned (.int .i64 eo) ∧
 ir.cell? (blk w.heap.size) = some (.pointer em) ∧
 Calls Try.prog 38 #[.pointer em, .int .i64 eo] ir fun ne gk => ∃ (c9 : Int), ne = .returned (.int .i64 c9) ∧
 bif c9 != 0 then (
 R (.int .i64 c9) gk) else (
 ∃ o5, o5 < jj ∧ I1 o5 [.int .i64 (IntKind.i64.wrap (cl + 1))] gk)) else (∃ (eo : Int) (ff : World), (externCall cw (fm.toList ++ ([] : List Value) ++ ep.toList).toArray).run Try.prog eu = .ok (.int .i64 eo) ff ∧
 ff.cell? (blk w.heap.size) = some (.pointer em) ∧
 Calls Try.prog 38 #[.pointer em, .int .i64 eo] ff fun oq ic => ∃ (c5 : Int), oq = .returned (.int .i64 c5) ∧
 bif c5 != 0 then (
 R (.int .i64 c5) ic) else (
 ∃ ld, ld < jj ∧ I1 ld [.int .i64 (IntKind.i64.wrap (cl + 1))] ic))) else (
 thenW (d6.drew) fun an =>
 ∃ (md : Option Addr), an.cell? (blk w.heap.size) = some (.pointer md) ∧
 ∃ (iu : Option Addr), an.cell? (blk w.heap.size) = some (.pointer iu) ∧
 ∃ (mh : Int), an.cell? (blk a2.heap.size) = some (.int .u32 mh) ∧
 ∃ (ji : Option Addr), an.cell? (blk a7.heap.size) = some (.pointer ji) ∧
 md.elim False fun mj =>
 canStore an ((mj.add 2).add 0) ∧
 thenW (an.setCell ((mj.add 2).add 0) (.int .u32 mh)) fun cv =>
 cv.cell? (blk a7.heap.size) = some (.pointer ji) ∧
 cv.cell? (blk w.heap.size) = some (.pointer iu) ∧
 iu.elim False fun lm =>
 canStore cv ((lm.add 3).add 0) ∧
 thenW (cv.setCell ((lm.add 3).add 0) (.pointer ji)) fun k8 =>
 R (.int .i64 0) k8))) ∧
 (thenW (a4.alloc (.cells #[.pointer none] 58)) fun ad =>
 ad.cell? (blk a2.heap.size) = some (.int .u32 aa) ∧
 ad.cell? (bu.add 1) = some (.int .i64 a0) ∧
 ad.cell? (blk w.heap.size) = some (.pointer bq) ∧
 ad.cell? (blk a2.heap.size) = some (.int .u32 fz) ∧
 ad.cell? (blk w.heap.size) = some (.pointer g0) ∧
 ad.cell? (bt.add 0) = some (.pointer ac) ∧
 ad.cell? (blk w.heap.size) = some (.pointer bs) ∧
 Calls Try.prog 27 #[.pointer g0, .int .u32 fz] ad fun nv b1 => ∃ (e0 : Int), nv = .returned (.int .i64 e0) ∧
 b1.cell? (blk a2.heap.size) = some (.int .u32 aa) ∧
 b1.cell? (bu.add 1) = some (.int .i64 a0) ∧
 b1.cell? (blk w.heap.size) = some (.pointer bq) ∧
 b1.cell? (bt.add 0) = some (.pointer ac) ∧
 b1.cell? (blk w.heap.size) = some (.pointer bs) ∧
 Calls Try.prog 29 #[.pointer ac, .int .i64 e0, .int .i64 a0, .int .u32 aa] b1 fun ma ie => ∃ (bc : Option Addr) (aj : Int), ma = .returned (.tuple #[.pointer bc, .int .i64 aj]) ∧
 canStore ie ((blk a4.heap.size).add 0) ∧
 thenW (ie.setCell ((blk a4.heap.size).add 0) (.pointer bc)) fun i6 =>
 canStore i6 ((blk a1.heap.size).add 0) ∧
 thenW (i6.setCell ((blk a1.heap.size).add 0) (.int .i64 aj)) fun dd =>
 ∃ (my : Option Addr), dd.cell? (blk w.heap.size) = some (.pointer my) ∧
 my.elim False fun pg =>
 ∃ (ob : Option Addr), dd.cell? (pg.add 0) = some (.pointer ob) ∧
 thenW (dd.alloc (.cells #[.func (.func 30) #[] #[.pointer (some (blk a1.heap.size))], .func (.func 31) #[] #[.pointer (some (blk a4.heap.size)), .pointer (some (blk ct.heap.size))], .func (.func 33) #[] #[.pointer (some (blk w.heap.size)), .pointer (some (blk a2.heap.size))], .func (.func 37) #[.pointer ob] #[]] 68)) fun kv =>
 ∃ (I1 : Nat → List Value → World → Prop) (p7 : Nat), I1 p7 [.int .i64 0] kv ∧ ∀ (j2 : Nat) (dz : World) (bv : Int), I1 j2 [.int .i64 bv] dz →
 bif decide (bv < (4 : Int)) then (
 0 ≤ (bv : Int) ∧ (bv : Int) < (4 : Int) ∧
 ∃ (dq : Nat) (ev : Array Value) (et : Array Value), dz.cell? ((blk dd.heap.size).add (Int.toNat bv * 1)) = some (.func (.func dq) ev et) ∧
 thenW (dz.drew) fun eq =>
 ∃ (fs : Option Addr), eq.cell? (blk w.heap.size) = some (.pointer fs) ∧
 bif enters Try.prog dq then Calls Try.prog dq (ev.toList ++ ([] : List Value) ++ et.toList).toArray eq (fun nk gq => ∃ (f5 : Int), nk = .returned (.int .i64 f5) ∧
 gq.cell? (blk w.heap.size) = some (.pointer fs) ∧
 Calls Try.prog 38 #[.pointer fs, .int .i64 f5] gq fun k3 gj => ∃ (c3 : Int), k3 = .returned (.int .i64 c3) ∧
 bif c3 != 0 then (
 R (.int .i64 c3) gj) else (
 ∃ nq, nq < j2 ∧ I1 nq [.int .i64 (IntKind.i64.wrap (bv + 1))] gj)) else (∃ (f5 : Int) (fx : World), (externCall dq (ev.toList ++ ([] : List Value) ++ et.toList).toArray).run Try.prog eq = .ok (.int .i64 f5) fx ∧
 fx.cell? (blk w.heap.size) = some (.pointer fs) ∧
 Calls Try.prog 38 #[.pointer fs, .int .i64 f5] fx fun le ig => ∃ (ck : Int), le = .returned (.int .i64 ck) ∧
 bif ck != 0 then (
 R (.int .i64 ck) ig) else (
 ∃ o6, o6 < j2 ∧ I1 o6 [.int .i64 (IntKind.i64.wrap (bv + 1))] ig))) else (
 thenW (dz.drew) fun aw =>
 ∃ (n2 : Option Addr), aw.cell? (blk w.heap.size) = some (.pointer n2) ∧
 ∃ (j9 : Option Addr), aw.cell? (blk w.heap.size) = some (.pointer j9) ∧
 ∃ (lg : Int), aw.cell? (blk a2.heap.size) = some (.int .u32 lg) ∧
 ∃ (jt : Option Addr), aw.cell? (blk a4.heap.size) = some (.pointer jt) ∧
 n2.elim False fun mx =>
 canStore aw ((mx.add 2).add 0) ∧
 thenW (aw.setCell ((mx.add 2).add 0) (.int .u32 lg)) fun dg =>
 dg.cell? (blk a4.heap.size) = some (.pointer jt) ∧
 dg.cell? (blk w.heap.size) = some (.pointer j9) ∧
 j9.elim False fun ke =>
 canStore dg ((ke.add 3).add 0) ∧
 thenW (dg.setCell ((ke.add 3).add 0) (.pointer jt)) fun mv =>
 R (.int .i64 0) mv))))))))

theorem snapshot_Store_Compact.eq (s1 : Option Addr) (snap2a : Option Addr) (snap2n : Nat) (snap2c : Nat) (R : Value → World → Prop) (w : World) : mfunc Try.prog [(1, [2, 6, 7, 69, 70], [(71, (.one (.int .i64)))])] 10 [.pointer s1, .slice snap2a snap2n snap2c] R w = snapshot_Store_Compact.M s1 snap2a snap2n snap2c R w := by kernel_rfl
theorem snapshot_Store_Compact.ok (s1 : Option Addr) (a0 : Option Addr) (a1 : Nat) (a2 : Nat) {R : Value → World → Prop} {w : World} (h : snapshot_Store_Compact.M s1 a0 a1 a2 R w) : Calls Try.prog 10 #[.pointer s1, .slice a0 a1 a2] w fun e w' => ∃ v, e = .returned v ∧ R v w' :=
  mfunc_ok follows (H := [(1, [2, 6, 7, 69, 70], [(71, (.one (.int .i64)))])]) (args := [.pointer s1, .slice a0 a1 a2]) (by rw [snapshot_Store_Compact.eq]; exact h)

def snapshot_Store_Compact.N (s1 : Option Addr) (fi : Option Addr) (fm : Nat) (fu : Nat) (R : Value → World → Prop) (w : World) : Prop :=
 ∀ (g3 : World) (q4 : Nat), Ext no w g3 → Blk g3 q4 29 [.pointer s1] → w.heap.size ≤ q4 → q4 < g3.heap.size →
 ∀ (ci : World) (q6 : Nat), Ext no g3 ci → Blk ci q6 30 [.slice fi fm fu] → g3.heap.size ≤ q6 → q6 < ci.heap.size →
 ∃ (x8 : Option Addr), ci.cell? (blk q4) = some (.pointer x8) ∧
 (x8 = none →
 R (.int .i64 23) ci) ∧
 (x8 ≠ none →
 ∃ (gu : Option Addr) (eo : Nat) (gr : Nat), ci.cell? (blk q6) = some (.slice gu eo gr) ∧
 ((journal_Parts.F (eo : Int)) = 0 →
 ∀ (cb : World), Ext no ci cb →
 R (.int .i64 3) cb) ∧
 ((journal_Parts.F (eo : Int)) ≠ 0 →
 ∃ (gz : Option Addr), ci.cell? (blk q4) = some (.pointer gz) ∧
 ∃ i6 : Addr, gz = some i6 ∧
 ∃ (dc : Bool), ci.cell? (i6.add 4) = some (.bool dc) ∧
 (dc = true →
 ∀ (cb : World), Ext no ci cb →
 R (.int .i64 19) cb) ∧
 (dc = false →
 ∃ (i2 : Option Addr), ci.cell? (blk q4) = some (.pointer i2) ∧
 ∃ i3 : Addr, i2 = some i3 ∧
 ∃ (c3 : Int), ci.cell? (i3.add 2) = some (.int .u32 c3) ∧
 (c3 = 4294967295 →
 ∀ (cb : World), Ext no ci cb →
 R (.int .i64 2) cb) ∧
 (c3 ≠ 4294967295 →
 ∃ (i4 : Option Addr), ci.cell? (blk q4) = some (.pointer i4) ∧
 ∃ i5 : Addr, i4 = some i5 ∧
 ∃ (dv : Int), ci.cell? (i5.add 1) = some (.int .i64 dv) ∧
 ((journal_Parts.F (eo : Int)) > dv →
 ∀ (cb : World), Ext no ci cb →
 R (.int .i64 18) cb) ∧
 ((journal_Parts.F (eo : Int)) ≤ dv →
 ∃ (i0 : Option Addr), ci.cell? (blk q4) = some (.pointer i0) ∧
 ∃ i1 : Addr, i0 = some i1 ∧
 ∃ (d8 : Int), ci.cell? (i1.add 2) = some (.int .u32 d8) ∧
 ∀ (eu : World) (ai : Nat), Ext no ci eu → Blk eu ai 34 [.int .u32 0] → ci.heap.size ≤ ai → ai < eu.heap.size →
 canStore eu ((blk ai).add 0) ∧
 thenW (eu.setCell ((blk ai).add 0) (.int .u32 (IntKind.u32.wrap (d8 + 1)))) fun bw =>
 ∃ (cx : Option Addr), bw.cell? (blk q4) = some (.pointer cx) ∧
 ∃ d3 : Addr, cx = some d3 ∧
 ∃ (c0 : Option Addr), bw.cell? (d3.add 0) = some (.pointer c0) ∧
 ∃ (f6 : Option Addr), bw.cell? (blk q4) = some (.pointer f6) ∧
 ∃ (f7 : Int), bw.cell? (blk ai) = some (.int .u32 f7) ∧
 ∃ (cv : Option Addr), bw.cell? (blk q4) = some (.pointer cv) ∧
 ∃ ct : Addr, cv = some ct ∧
 ∃ (a0 : Int), bw.cell? (ct.add 1) = some (.int .i64 a0) ∧
 ∃ (bz : Int), bw.cell? (blk ai) = some (.int .u32 bz) ∧
 (∀ (fb : World) (fz : List Nat), Ext no bw fb → Priv bw fb fz →
 Calls Try.prog 27 #[.pointer f6, .int .u32 f7] fb fun gy ch => ∃ (br : Int), gy = .returned (.int .i64 br) ∧
 Keep fz fb ch ∧
 ch.cell? (blk ai) = some (.int .u32 bz) ∧
 ch.cell? (ct.add 1) = some (.int .i64 a0) ∧
 ch.cell? (blk q4) = some (.pointer cv) ∧
 ch.cell? (d3.add 0) = some (.pointer c0) ∧
 ch.cell? (blk q4) = some (.pointer cx) ∧
 (∀ (fc : World) (gp : List Nat), Ext (fun b => b ∈ fz) ch fc → PrivJ fz ch fc gp →
 Calls Try.prog 29 #[.pointer c0, .int .i64 br, .int .i64 a0, .int .u32 bz] fc fun gt fw => ∃ (c4 : Option Addr) (ca : Int), gt = .returned (.tuple #[.pointer c4, .int .i64 ca]) ∧
 Keep gp fc fw ∧
 (∀ (ae : World), Ext (fun b => b ∈ gp) fw ae →
 ∀ (ce : World) (e2 : Nat), Ext no ae ce → Blk ce e2 58 [.pointer none] → ae.heap.size ≤ e2 → e2 < ce.heap.size →
 ∀ (am : World) (e0 : Nat), Ext no ce am → Blk am e0 26 [.int .i64 0] → ce.heap.size ≤ e0 → e0 < am.heap.size →
 canStore am ((blk e2).add 0) ∧
 thenW (am.setCell ((blk e2).add 0) (.pointer c4)) fun bg =>
 canStore bg ((blk e0).add 0) ∧
 thenW (bg.setCell ((blk e0).add 0) (.int .i64 ca)) fun cl =>
 ∃ (gm : Option Addr), cl.cell? (blk q4) = some (.pointer gm) ∧
 ∃ g8 : Addr, gm = some g8 ∧
 ∃ (gh : Option Addr), cl.cell? (g8.add 0) = some (.pointer gh) ∧
 ∀ (ag : World) (ff : Nat), Ext no cl ag → Blk ag ff 68 [.func (.func 30) #[] #[.pointer (some (blk e0))], .func (.func 31) #[] #[.pointer (some (blk e2)), .pointer (some (blk q6))], .func (.func 33) #[] #[.pointer (some (blk q4)), .pointer (some (blk ai))], .func (.func 37) #[.pointer gh] #[]] → cl.heap.size ≤ ff → ff < ag.heap.size →
 ∃ (I1 : Nat → List Value → World → Prop) (gs : Nat), I1 gs [.int .i64 0] ag ∧ ∀ (gg : Nat) (a2 : World) (cp : Int), I1 gg [.int .i64 cp] a2 →
 (cp < (4 : Int) →
 0 ≤ (cp : Int) ∧ (cp : Int) < (4 : Int) ∧
 ∃ (dl : Nat) (e7 : Array Value) (ec : Array Value), a2.cell? ((blk ff).add (Int.toNat cp * 1)) = some (.func (.func dl) e7 ec) ∧
 ∃ (fl : Option Addr), a2.cell? (blk q4) = some (.pointer fl) ∧
 ∀ (f3 : World), Ext no a2 f3 →
 enters Try.prog dl = true ∧ Calls Try.prog dl (e7.toList ++ ([] : List Value) ++ ec.toList).toArray f3 (fun fy an => ∃ (gl : Int), fy = .returned (.int .i64 gl) ∧
 an.cell? (blk q4) = some (.pointer fl) ∧
 Calls Try.prog 38 #[.pointer fl, .int .i64 gl] an fun et d5 => ∃ (au : Int), et = .returned (.int .i64 au) ∧
 (au ≠ 0 →
 R (.int .i64 au) d5) ∧
 (au = 0 →
 (-9223372036854775808 : Int) ≤ (cp + 1) ∧ (cp + 1) < 9223372036854775808 ∧
 ∃ em, em < gg ∧ I1 em [.int .i64 (cp + 1)] d5))) ∧
 ((4 : Int) ≤ cp →
 ∃ (bt : Option Addr), a2.cell? (blk q4) = some (.pointer bt) ∧
 ∃ (bo : Option Addr), a2.cell? (blk q4) = some (.pointer bo) ∧
 ∃ (ek : Int), a2.cell? (blk ai) = some (.int .u32 ek) ∧
 ∃ (db : Option Addr), a2.cell? (blk e2) = some (.pointer db) ∧
 ∃ dr : Addr, bt = some dr ∧
 ∀ (a8 : World), Ext no a2 a8 →
 canStore a8 ((dr.add 2).add 0) ∧
 thenW (a8.setCell ((dr.add 2).add 0) (.int .u32 ek)) fun af =>
 af.cell? (blk e2) = some (.pointer db) ∧
 af.cell? (blk q4) = some (.pointer bo) ∧
 ∃ dx : Addr, bo = some dx ∧
 canStore af ((dx.add 3).add 0) ∧
 thenW (af.setCell ((dx.add 3).add 0) (.pointer db)) fun b9 =>
 R (.int .i64 0) b9)) ∧
 (∀ (ae : World), Ext (fun b => b ∈ gp) fw ae →
 ∀ (ce : World) (e2 : Nat), Ext no ae ce → Blk ce e2 26 [.int .i64 0] → ae.heap.size ≤ e2 → e2 < ce.heap.size →
 ∀ (am : World) (e0 : Nat), Ext no ce am → Blk am e0 58 [.pointer none] → ce.heap.size ≤ e0 → e0 < am.heap.size →
 canStore am ((blk e0).add 0) ∧
 thenW (am.setCell ((blk e0).add 0) (.pointer c4)) fun bg =>
 canStore bg ((blk e2).add 0) ∧
 thenW (bg.setCell ((blk e2).add 0) (.int .i64 ca)) fun cl =>
 ∃ (gm : Option Addr), cl.cell? (blk q4) = some (.pointer gm) ∧
 ∃ g8 : Addr, gm = some g8 ∧
 ∃ (gh : Option Addr), cl.cell? (g8.add 0) = some (.pointer gh) ∧
 ∀ (ag : World) (ff : Nat), Ext no cl ag → Blk ag ff 68 [.func (.func 30) #[] #[.pointer (some (blk e2))], .func (.func 31) #[] #[.pointer (some (blk e0)), .pointer (some (blk q6))], .func (.func 33) #[] #[.pointer (some (blk q4)), .pointer (some (blk ai))], .func (.func 37) #[.pointer gh] #[]] → cl.heap.size ≤ ff → ff < ag.heap.size →
 ∃ (I1 : Nat → List Value → World → Prop) (gs : Nat), I1 gs [.int .i64 0] ag ∧ ∀ (gg : Nat) (a2 : World) (cp : Int), I1 gg [.int .i64 cp] a2 →
 (cp < (4 : Int) →
 0 ≤ (cp : Int) ∧ (cp : Int) < (4 : Int) ∧
 ∃ (dl : Nat) (e7 : Array Value) (ec : Array Value), a2.cell? ((blk ff).add (Int.toNat cp * 1)) = some (.func (.func dl) e7 ec) ∧
 ∃ (fl : Option Addr), a2.cell? (blk q4) = some (.pointer fl) ∧
 ∀ (f3 : World), Ext no a2 f3 →
 enters Try.prog dl = true ∧ Calls Try.prog dl (e7.toList ++ ([] : List Value) ++ ec.toList).toArray f3 (fun fy an => ∃ (gl : Int), fy = .returned (.int .i64 gl) ∧
 an.cell? (blk q4) = some (.pointer fl) ∧
 Calls Try.prog 38 #[.pointer fl, .int .i64 gl] an fun et d5 => ∃ (au : Int), et = .returned (.int .i64 au) ∧
 (au ≠ 0 →
 R (.int .i64 au) d5) ∧
 (au = 0 →
 (-9223372036854775808 : Int) ≤ (cp + 1) ∧ (cp + 1) < 9223372036854775808 ∧
 ∃ em, em < gg ∧ I1 em [.int .i64 (cp + 1)] d5))) ∧
 ((4 : Int) ≤ cp →
 ∃ (bt : Option Addr), a2.cell? (blk q4) = some (.pointer bt) ∧
 ∃ (bo : Option Addr), a2.cell? (blk q4) = some (.pointer bo) ∧
 ∃ (ek : Int), a2.cell? (blk ai) = some (.int .u32 ek) ∧
 ∃ (db : Option Addr), a2.cell? (blk e0) = some (.pointer db) ∧
 ∃ dr : Addr, bt = some dr ∧
 ∀ (a8 : World), Ext no a2 a8 →
 canStore a8 ((dr.add 2).add 0) ∧
 thenW (a8.setCell ((dr.add 2).add 0) (.int .u32 ek)) fun af =>
 af.cell? (blk e0) = some (.pointer db) ∧
 af.cell? (blk q4) = some (.pointer bo) ∧
 ∃ dx : Addr, bo = some dx ∧
 canStore af ((dx.add 3).add 0) ∧
 thenW (af.setCell ((dx.add 3).add 0) (.pointer db)) fun b9 =>
 R (.int .i64 0) b9))) ∧
 (∀ (bc : World), Ext (fun b => b ∈ fz) ch bc →
 ∀ (a3 : World) (c6 : Nat), Ext no bc a3 → Blk a3 c6 58 [.pointer none] → bc.heap.size ≤ c6 → c6 < a3.heap.size →
 a3.cell? (blk ai) = some (.int .u32 bz) ∧
 a3.cell? (ct.add 1) = some (.int .i64 a0) ∧
 a3.cell? (blk q4) = some (.pointer cv) ∧
 a3.cell? (d3.add 0) = some (.pointer c0) ∧
 a3.cell? (blk q4) = some (.pointer cx) ∧
 (∀ (am : World) (fq : List Nat), Ext no a3 am → Priv a3 am fq →
 Calls Try.prog 29 #[.pointer c0, .int .i64 br, .int .i64 a0, .int .u32 bz] am fun da aj => ∃ (bf : Option Addr) (b8 : Int), da = .returned (.tuple #[.pointer bf, .int .i64 b8]) ∧
 Keep fq am aj ∧
 ∀ (ac : World), Ext (fun b => b ∈ fq) aj ac →
 ∀ (c8 : World) (de : Nat), Ext no ac c8 → Blk c8 de 26 [.int .i64 0] → ac.heap.size ≤ de → de < c8.heap.size →
 canStore c8 ((blk c6).add 0) ∧
 thenW (c8.setCell ((blk c6).add 0) (.pointer bf)) fun ab =>
 canStore ab ((blk de).add 0) ∧
 thenW (ab.setCell ((blk de).add 0) (.int .i64 b8)) fun cj =>
 ∃ (ga : Option Addr), cj.cell? (blk q4) = some (.pointer ga) ∧
 ∃ g0 : Addr, ga = some g0 ∧
 ∃ (gb : Option Addr), cj.cell? (g0.add 0) = some (.pointer gb) ∧
 ∀ (a2 : World) (fe : Nat), Ext no cj a2 → Blk a2 fe 68 [.func (.func 30) #[] #[.pointer (some (blk de))], .func (.func 31) #[] #[.pointer (some (blk c6)), .pointer (some (blk q6))], .func (.func 33) #[] #[.pointer (some (blk q4)), .pointer (some (blk ai))], .func (.func 37) #[.pointer gb] #[]] → cj.heap.size ≤ fe → fe < a2.heap.size →
 ∃ (I1 : Nat → List Value → World → Prop) (gx : Nat), I1 gx [.int .i64 0] a2 ∧ ∀ (g4 : Nat) (a9 : World) (ck : Int), I1 g4 [.int .i64 ck] a9 →
 (ck < (4 : Int) →
 0 ≤ (ck : Int) ∧ (ck : Int) < (4 : Int) ∧
 ∃ (dd : Nat) (ef : Array Value) (e4 : Array Value), a9.cell? ((blk fe).add (Int.toNat ck * 1)) = some (.func (.func dd) ef e4) ∧
 ∃ (dt : Option Addr), a9.cell? (blk q4) = some (.pointer dt) ∧
 ∀ (an : World), Ext no a9 an →
 enters Try.prog dd = true ∧ Calls Try.prog dd (ef.toList ++ ([] : List Value) ++ e4.toList).toArray an (fun e8 a1 => ∃ (eq : Int), e8 = .returned (.int .i64 eq) ∧
 a1.cell? (blk q4) = some (.pointer dt) ∧
 Calls Try.prog 38 #[.pointer dt, .int .i64 eq] a1 fun e9 bb => ∃ (aw : Int), e9 = .returned (.int .i64 aw) ∧
 (aw ≠ 0 →
 R (.int .i64 aw) bb) ∧
 (aw = 0 →
 (-9223372036854775808 : Int) ≤ (ck + 1) ∧ (ck + 1) < 9223372036854775808 ∧
 ∃ ep, ep < g4 ∧ I1 ep [.int .i64 (ck + 1)] bb))) ∧
 ((4 : Int) ≤ ck →
 ∃ (ew : Option Addr), a9.cell? (blk q4) = some (.pointer ew) ∧
 ∃ (bq : Option Addr), a9.cell? (blk q4) = some (.pointer bq) ∧
 ∃ (bx : Int), a9.cell? (blk ai) = some (.int .u32 bx) ∧
 ∃ (bs : Option Addr), a9.cell? (blk c6) = some (.pointer bs) ∧
 ∃ dp : Addr, ew = some dp ∧
 ∀ (ap : World), Ext no a9 ap →
 canStore ap ((dp.add 2).add 0) ∧
 thenW (ap.setCell ((dp.add 2).add 0) (.int .u32 bx)) fun ae =>
 ae.cell? (blk c6) = some (.pointer bs) ∧
 ae.cell? (blk q4) = some (.pointer bq) ∧
 ∃ du : Addr, bq = some du ∧
 canStore ae ((du.add 3).add 0) ∧
 thenW (ae.setCell ((du.add 3).add 0) (.pointer bs)) fun eg =>
 R (.int .i64 0) eg)) ∧
 (∀ (al : World) (di : Nat), Ext no a3 al → Blk al di 26 [.int .i64 0] → a3.heap.size ≤ di → di < al.heap.size →
 al.cell? (blk ai) = some (.int .u32 bz) ∧
 al.cell? (ct.add 1) = some (.int .i64 a0) ∧
 al.cell? (blk q4) = some (.pointer cv) ∧
 al.cell? (d3.add 0) = some (.pointer c0) ∧
 al.cell? (blk q4) = some (.pointer cx) ∧
 ∀ (ab : World) (fh : List Nat), Ext no al ab → Priv al ab fh →
 Calls Try.prog 29 #[.pointer c0, .int .i64 br, .int .i64 a0, .int .u32 bz] ab fun fv bi => ∃ (be : Option Addr) (b5 : Int), fv = .returned (.tuple #[.pointer be, .int .i64 b5]) ∧
 Keep fh ab bi ∧
 ∀ (c5 : World), Ext (fun b => b ∈ fh) bi c5 →
 canStore c5 ((blk c6).add 0) ∧
 thenW (c5.setCell ((blk c6).add 0) (.pointer be)) fun er =>
 canStore er ((blk di).add 0) ∧
 thenW (er.setCell ((blk di).add 0) (.int .i64 b5)) fun bn =>
 ∃ (gn : Option Addr), bn.cell? (blk q4) = some (.pointer gn) ∧
 ∃ g9 : Addr, gn = some g9 ∧
 ∃ (g1 : Option Addr), bn.cell? (g9.add 0) = some (.pointer g1) ∧
 ∀ (a9 : World) (f8 : Nat), Ext no bn a9 → Blk a9 f8 68 [.func (.func 30) #[] #[.pointer (some (blk di))], .func (.func 31) #[] #[.pointer (some (blk c6)), .pointer (some (blk q6))], .func (.func 33) #[] #[.pointer (some (blk q4)), .pointer (some (blk ai))], .func (.func 37) #[.pointer g1] #[]] → bn.heap.size ≤ f8 → f8 < a9.heap.size →
 ∃ (I1 : Nat → List Value → World → Prop) (gw : Nat), I1 gw [.int .i64 0] a9 ∧ ∀ (gf : Nat) (av : World) (cq : Int), I1 gf [.int .i64 cq] av →
 (cq < (4 : Int) →
 0 ≤ (cq : Int) ∧ (cq : Int) < (4 : Int) ∧
 ∃ (cf : Nat) (d6 : Array Value) (cz : Array Value), av.cell? ((blk f8).add (Int.toNat cq * 1)) = some (.func (.func cf) d6 cz) ∧
 ∃ (dw : Option Addr), av.cell? (blk q4) = some (.pointer dw) ∧
 ∀ (a1 : World), Ext no av a1 →
 enters Try.prog cf = true ∧ Calls Try.prog cf (d6.toList ++ ([] : List Value) ++ cz.toList).toArray a1 (fun e5 cy => ∃ (f1 : Int), e5 = .returned (.int .i64 f1) ∧
 cy.cell? (blk q4) = some (.pointer dw) ∧
 Calls Try.prog 38 #[.pointer dw, .int .i64 f1] cy fun c2 a5 => ∃ (ax : Int), c2 = .returned (.int .i64 ax) ∧
 (ax ≠ 0 →
 R (.int .i64 ax) a5) ∧
 (ax = 0 →
 (-9223372036854775808 : Int) ≤ (cq + 1) ∧ (cq + 1) < 9223372036854775808 ∧
 ∃ en, en < gf ∧ I1 en [.int .i64 (cq + 1)] a5))) ∧
 ((4 : Int) ≤ cq →
 ∃ (eh : Option Addr), av.cell? (blk q4) = some (.pointer eh) ∧
 ∃ (bv : Option Addr), av.cell? (blk q4) = some (.pointer bv) ∧
 ∃ (b0 : Int), av.cell? (blk ai) = some (.int .u32 b0) ∧
 ∃ (ak : Option Addr), av.cell? (blk c6) = some (.pointer ak) ∧
 ∃ e1 : Addr, eh = some e1 ∧
 ∀ (af : World), Ext no av af →
 canStore af ((e1.add 2).add 0) ∧
 thenW (af.setCell ((e1.add 2).add 0) (.int .u32 b0)) fun ac =>
 ac.cell? (blk c6) = some (.pointer ak) ∧
 ac.cell? (blk q4) = some (.pointer bv) ∧
 ∃ bk : Addr, bv = some bk ∧
 canStore ac ((bk.add 3).add 0) ∧
 thenW (ac.setCell ((bk.add 3).add 0) (.pointer ak)) fun ao =>
 R (.int .i64 0) ao))) ∧
 (∀ (bc : World), Ext (fun b => b ∈ fz) ch bc →
 ∀ (a3 : World) (c6 : Nat), Ext no bc a3 → Blk a3 c6 26 [.int .i64 0] → bc.heap.size ≤ c6 → c6 < a3.heap.size →
 a3.cell? (blk ai) = some (.int .u32 bz) ∧
 a3.cell? (ct.add 1) = some (.int .i64 a0) ∧
 a3.cell? (blk q4) = some (.pointer cv) ∧
 a3.cell? (d3.add 0) = some (.pointer c0) ∧
 a3.cell? (blk q4) = some (.pointer cx) ∧
 (∀ (am : World) (fq : List Nat), Ext no a3 am → Priv a3 am fq →
 Calls Try.prog 29 #[.pointer c0, .int .i64 br, .int .i64 a0, .int .u32 bz] am fun da aj => ∃ (bf : Option Addr) (b8 : Int), da = .returned (.tuple #[.pointer bf, .int .i64 b8]) ∧
 Keep fq am aj ∧
 ∀ (ac : World), Ext (fun b => b ∈ fq) aj ac →
 ∀ (c8 : World) (de : Nat), Ext no ac c8 → Blk c8 de 58 [.pointer none] → ac.heap.size ≤ de → de < c8.heap.size →
 canStore c8 ((blk de).add 0) ∧
 thenW (c8.setCell ((blk de).add 0) (.pointer bf)) fun ab =>
 canStore ab ((blk c6).add 0) ∧
 thenW (ab.setCell ((blk c6).add 0) (.int .i64 b8)) fun cj =>
 ∃ (ga : Option Addr), cj.cell? (blk q4) = some (.pointer ga) ∧
 ∃ g0 : Addr, ga = some g0 ∧
 ∃ (gb : Option Addr), cj.cell? (g0.add 0) = some (.pointer gb) ∧
 ∀ (a2 : World) (fe : Nat), Ext no cj a2 → Blk a2 fe 68 [.func (.func 30) #[] #[.pointer (some (blk c6))], .func (.func 31) #[] #[.pointer (some (blk de)), .pointer (some (blk q6))], .func (.func 33) #[] #[.pointer (some (blk q4)), .pointer (some (blk ai))], .func (.func 37) #[.pointer gb] #[]] → cj.heap.size ≤ fe → fe < a2.heap.size →
 ∃ (I1 : Nat → List Value → World → Prop) (gx : Nat), I1 gx [.int .i64 0] a2 ∧ ∀ (g4 : Nat) (a9 : World) (ck : Int), I1 g4 [.int .i64 ck] a9 →
 (ck < (4 : Int) →
 0 ≤ (ck : Int) ∧ (ck : Int) < (4 : Int) ∧
 ∃ (dd : Nat) (ef : Array Value) (e4 : Array Value), a9.cell? ((blk fe).add (Int.toNat ck * 1)) = some (.func (.func dd) ef e4) ∧
 ∃ (dt : Option Addr), a9.cell? (blk q4) = some (.pointer dt) ∧
 ∀ (an : World), Ext no a9 an →
 enters Try.prog dd = true ∧ Calls Try.prog dd (ef.toList ++ ([] : List Value) ++ e4.toList).toArray an (fun e8 a1 => ∃ (eq : Int), e8 = .returned (.int .i64 eq) ∧
 a1.cell? (blk q4) = some (.pointer dt) ∧
 Calls Try.prog 38 #[.pointer dt, .int .i64 eq] a1 fun e9 bb => ∃ (aw : Int), e9 = .returned (.int .i64 aw) ∧
 (aw ≠ 0 →
 R (.int .i64 aw) bb) ∧
 (aw = 0 →
 (-9223372036854775808 : Int) ≤ (ck + 1) ∧ (ck + 1) < 9223372036854775808 ∧
 ∃ ep, ep < g4 ∧ I1 ep [.int .i64 (ck + 1)] bb))) ∧
 ((4 : Int) ≤ ck →
 ∃ (ew : Option Addr), a9.cell? (blk q4) = some (.pointer ew) ∧
 ∃ (bq : Option Addr), a9.cell? (blk q4) = some (.pointer bq) ∧
 ∃ (bx : Int), a9.cell? (blk ai) = some (.int .u32 bx) ∧
 ∃ (bs : Option Addr), a9.cell? (blk de) = some (.pointer bs) ∧
 ∃ dp : Addr, ew = some dp ∧
 ∀ (ap : World), Ext no a9 ap →
 canStore ap ((dp.add 2).add 0) ∧
 thenW (ap.setCell ((dp.add 2).add 0) (.int .u32 bx)) fun ae =>
 ae.cell? (blk de) = some (.pointer bs) ∧
 ae.cell? (blk q4) = some (.pointer bq) ∧
 ∃ du : Addr, bq = some du ∧
 canStore ae ((du.add 3).add 0) ∧
 thenW (ae.setCell ((du.add 3).add 0) (.pointer bs)) fun eg =>
 R (.int .i64 0) eg)) ∧
 (∀ (al : World) (di : Nat), Ext no a3 al → Blk al di 58 [.pointer none] → a3.heap.size ≤ di → di < al.heap.size →
 al.cell? (blk ai) = some (.int .u32 bz) ∧
 al.cell? (ct.add 1) = some (.int .i64 a0) ∧
 al.cell? (blk q4) = some (.pointer cv) ∧
 al.cell? (d3.add 0) = some (.pointer c0) ∧
 al.cell? (blk q4) = some (.pointer cx) ∧
 ∀ (ab : World) (fh : List Nat), Ext no al ab → Priv al ab fh →
 Calls Try.prog 29 #[.pointer c0, .int .i64 br, .int .i64 a0, .int .u32 bz] ab fun fv bi => ∃ (be : Option Addr) (b5 : Int), fv = .returned (.tuple #[.pointer be, .int .i64 b5]) ∧
 Keep fh ab bi ∧
 ∀ (c5 : World), Ext (fun b => b ∈ fh) bi c5 →
 canStore c5 ((blk di).add 0) ∧
 thenW (c5.setCell ((blk di).add 0) (.pointer be)) fun er =>
 canStore er ((blk c6).add 0) ∧
 thenW (er.setCell ((blk c6).add 0) (.int .i64 b5)) fun bn =>
 ∃ (gn : Option Addr), bn.cell? (blk q4) = some (.pointer gn) ∧
 ∃ g9 : Addr, gn = some g9 ∧
 ∃ (g1 : Option Addr), bn.cell? (g9.add 0) = some (.pointer g1) ∧
 ∀ (a9 : World) (f8 : Nat), Ext no bn a9 → Blk a9 f8 68 [.func (.func 30) #[] #[.pointer (some (blk c6))], .func (.func 31) #[] #[.pointer (some (blk di)), .pointer (some (blk q6))], .func (.func 33) #[] #[.pointer (some (blk q4)), .pointer (some (blk ai))], .func (.func 37) #[.pointer g1] #[]] → bn.heap.size ≤ f8 → f8 < a9.heap.size →
 ∃ (I1 : Nat → List Value → World → Prop) (gw : Nat), I1 gw [.int .i64 0] a9 ∧ ∀ (gf : Nat) (av : World) (cq : Int), I1 gf [.int .i64 cq] av →
 (cq < (4 : Int) →
 0 ≤ (cq : Int) ∧ (cq : Int) < (4 : Int) ∧
 ∃ (cf : Nat) (d6 : Array Value) (cz : Array Value), av.cell? ((blk f8).add (Int.toNat cq * 1)) = some (.func (.func cf) d6 cz) ∧
 ∃ (dw : Option Addr), av.cell? (blk q4) = some (.pointer dw) ∧
 ∀ (a1 : World), Ext no av a1 →
 enters Try.prog cf = true ∧ Calls Try.prog cf (d6.toList ++ ([] : List Value) ++ cz.toList).toArray a1 (fun e5 cy => ∃ (f1 : Int), e5 = .returned (.int .i64 f1) ∧
 cy.cell? (blk q4) = some (.pointer dw) ∧
 Calls Try.prog 38 #[.pointer dw, .int .i64 f1] cy fun c2 a5 => ∃ (ax : Int), c2 = .returned (.int .i64 ax) ∧
 (ax ≠ 0 →
 R (.int .i64 ax) a5) ∧
 (ax = 0 →
 (-9223372036854775808 : Int) ≤ (cq + 1) ∧ (cq + 1) < 9223372036854775808 ∧
 ∃ en, en < gf ∧ I1 en [.int .i64 (cq + 1)] a5))) ∧
 ((4 : Int) ≤ cq →
 ∃ (eh : Option Addr), av.cell? (blk q4) = some (.pointer eh) ∧
 ∃ (bv : Option Addr), av.cell? (blk q4) = some (.pointer bv) ∧
 ∃ (b0 : Int), av.cell? (blk ai) = some (.int .u32 b0) ∧
 ∃ (ak : Option Addr), av.cell? (blk di) = some (.pointer ak) ∧
 ∃ e1 : Addr, eh = some e1 ∧
 ∀ (af : World), Ext no av af →
 canStore af ((e1.add 2).add 0) ∧
 thenW (af.setCell ((e1.add 2).add 0) (.int .u32 b0)) fun ac =>
 ac.cell? (blk di) = some (.pointer ak) ∧
 ac.cell? (blk q4) = some (.pointer bv) ∧
 ∃ bk : Addr, bv = some bk ∧
 canStore ac ((bk.add 3).add 0) ∧
 thenW (ac.setCell ((bk.add 3).add 0) (.pointer ak)) fun ao =>
 R (.int .i64 0) ao)))) ∧
 (∀ (a6 : World) (bl : Nat), Ext no bw a6 → Blk a6 bl 58 [.pointer none] → bw.heap.size ≤ bl → bl < a6.heap.size →
 a6.cell? (blk ai) = some (.int .u32 bz) ∧
 a6.cell? (ct.add 1) = some (.int .i64 a0) ∧
 a6.cell? (blk q4) = some (.pointer cv) ∧
 a6.cell? (blk ai) = some (.int .u32 f7) ∧
 a6.cell? (blk q4) = some (.pointer f6) ∧
 a6.cell? (d3.add 0) = some (.pointer c0) ∧
 a6.cell? (blk q4) = some (.pointer cx) ∧
 (∀ (a3 : World) (ei : List Nat), Ext no a6 a3 → Priv a6 a3 ei →
 Calls Try.prog 27 #[.pointer f6, .int .u32 f7] a3 fun fp az => ∃ (bj : Int), fp = .returned (.int .i64 bj) ∧
 Keep ei a3 az ∧
 az.cell? (blk ai) = some (.int .u32 bz) ∧
 az.cell? (ct.add 1) = some (.int .i64 a0) ∧
 az.cell? (blk q4) = some (.pointer cv) ∧
 az.cell? (d3.add 0) = some (.pointer c0) ∧
 az.cell? (blk q4) = some (.pointer cx) ∧
 (∀ (bg : World) (fs : List Nat), Ext (fun b => b ∈ ei) az bg → PrivJ ei az bg fs →
 Calls Try.prog 29 #[.pointer c0, .int .i64 bj, .int .i64 a0, .int .u32 bz] bg fun fx f2 => ∃ (ba : Option Addr) (b4 : Int), fx = .returned (.tuple #[.pointer ba, .int .i64 b4]) ∧
 Keep fs bg f2 ∧
 ∀ (ad : World), Ext (fun b => b ∈ fs) f2 ad →
 ∀ (ab : World) (dq : Nat), Ext no ad ab → Blk ab dq 26 [.int .i64 0] → ad.heap.size ≤ dq → dq < ab.heap.size →
 canStore ab ((blk bl).add 0) ∧
 thenW (ab.setCell ((blk bl).add 0) (.pointer ba)) fun ag =>
 canStore ag ((blk dq).add 0) ∧
 thenW (ag.setCell ((blk dq).add 0) (.int .i64 b4)) fun cr =>
 ∃ (gj : Option Addr), cr.cell? (blk q4) = some (.pointer gj) ∧
 ∃ g5 : Addr, gj = some g5 ∧
 ∃ (ge : Option Addr), cr.cell? (g5.add 0) = some (.pointer ge) ∧
 ∀ (bm : World) (fd : Nat), Ext no cr bm → Blk bm fd 68 [.func (.func 30) #[] #[.pointer (some (blk dq))], .func (.func 31) #[] #[.pointer (some (blk bl)), .pointer (some (blk q6))], .func (.func 33) #[] #[.pointer (some (blk q4)), .pointer (some (blk ai))], .func (.func 37) #[.pointer ge] #[]] → cr.heap.size ≤ fd → fd < bm.heap.size →
 ∃ (I1 : Nat → List Value → World → Prop) (gv : Nat), I1 gv [.int .i64 0] bm ∧ ∀ (gi : Nat) (a7 : World) (cn : Int), I1 gi [.int .i64 cn] a7 →
 (cn < (4 : Int) →
 0 ≤ (cn : Int) ∧ (cn : Int) < (4 : Int) ∧
 ∃ (dg : Nat) (ev : Array Value) (ea : Array Value), a7.cell? ((blk fd).add (Int.toNat cn * 1)) = some (.func (.func dg) ev ea) ∧
 ∃ (dj : Option Addr), a7.cell? (blk q4) = some (.pointer dj) ∧
 ∀ (cw : World), Ext no a7 cw →
 enters Try.prog dg = true ∧ Calls Try.prog dg (ev.toList ++ ([] : List Value) ++ ea.toList).toArray cw (fun es a8 => ∃ (e6 : Int), es = .returned (.int .i64 e6) ∧
 a8.cell? (blk q4) = some (.pointer dj) ∧
 Calls Try.prog 38 #[.pointer dj, .int .i64 e6] a8 fun f0 d4 => ∃ (aq : Int), f0 = .returned (.int .i64 aq) ∧
 (aq ≠ 0 →
 R (.int .i64 aq) d4) ∧
 (aq = 0 →
 (-9223372036854775808 : Int) ≤ (cn + 1) ∧ (cn + 1) < 9223372036854775808 ∧
 ∃ eb, eb < gi ∧ I1 eb [.int .i64 (cn + 1)] d4))) ∧
 ((4 : Int) ≤ cn →
 ∃ (bq : Option Addr), a7.cell? (blk q4) = some (.pointer bq) ∧
 ∃ (bx : Option Addr), a7.cell? (blk q4) = some (.pointer bx) ∧
 ∃ (bs : Int), a7.cell? (blk ai) = some (.int .u32 bs) ∧
 ∃ (dy : Option Addr), a7.cell? (blk bl) = some (.pointer dy) ∧
 ∃ d9 : Addr, bq = some d9 ∧
 ∀ (a5 : World), Ext no a7 a5 →
 canStore a5 ((d9.add 2).add 0) ∧
 thenW (a5.setCell ((d9.add 2).add 0) (.int .u32 bs)) fun bp =>
 bp.cell? (blk bl) = some (.pointer dy) ∧
 bp.cell? (blk q4) = some (.pointer bx) ∧
 ∃ dm : Addr, bx = some dm ∧
 canStore bp ((dm.add 3).add 0) ∧
 thenW (bp.setCell ((dm.add 3).add 0) (.pointer dy)) fun ed =>
 R (.int .i64 0) ed)) ∧
 (∀ (b6 : World), Ext (fun b => b ∈ ei) az b6 →
 ∀ (a4 : World) (dz : Nat), Ext no b6 a4 → Blk a4 dz 26 [.int .i64 0] → b6.heap.size ≤ dz → dz < a4.heap.size →
 a4.cell? (blk ai) = some (.int .u32 bz) ∧
 a4.cell? (ct.add 1) = some (.int .i64 a0) ∧
 a4.cell? (blk q4) = some (.pointer cv) ∧
 a4.cell? (d3.add 0) = some (.pointer c0) ∧
 a4.cell? (blk q4) = some (.pointer cx) ∧
 ∀ (ag : World) (fo : List Nat), Ext no a4 ag → Priv a4 ag fo →
 Calls Try.prog 29 #[.pointer c0, .int .i64 bj, .int .i64 a0, .int .u32 bz] ag fun fr bn => ∃ (b2 : Option Addr) (bd : Int), fr = .returned (.tuple #[.pointer b2, .int .i64 bd]) ∧
 Keep fo ag bn ∧
 ∀ (cc : World), Ext (fun b => b ∈ fo) bn cc →
 canStore cc ((blk bl).add 0) ∧
 thenW (cc.setCell ((blk bl).add 0) (.pointer b2)) fun a2 =>
 canStore a2 ((blk dz).add 0) ∧
 thenW (a2.setCell ((blk dz).add 0) (.int .i64 bd)) fun bh =>
 ∃ (g6 : Option Addr), bh.cell? (blk q4) = some (.pointer g6) ∧
 ∃ gc : Addr, g6 = some gc ∧
 ∃ (g7 : Option Addr), bh.cell? (gc.add 0) = some (.pointer g7) ∧
 ∀ (a7 : World) (fg : Nat), Ext no bh a7 → Blk a7 fg 68 [.func (.func 30) #[] #[.pointer (some (blk dz))], .func (.func 31) #[] #[.pointer (some (blk bl)), .pointer (some (blk q6))], .func (.func 33) #[] #[.pointer (some (blk q4)), .pointer (some (blk ai))], .func (.func 37) #[.pointer g7] #[]] → bh.heap.size ≤ fg → fg < a7.heap.size →
 ∃ (I1 : Nat → List Value → World → Prop) (gq : Nat), I1 gq [.int .i64 0] a7 ∧ ∀ (ex : Nat) (aa : World) (cm : Int), I1 ex [.int .i64 cm] aa →
 (cm < (4 : Int) →
 0 ≤ (cm : Int) ∧ (cm : Int) < (4 : Int) ∧
 ∃ (c1 : Nat) (cu : Array Value) (d7 : Array Value), aa.cell? ((blk fg).add (Int.toNat cm * 1)) = some (.func (.func c1) cu d7) ∧
 ∃ (bt : Option Addr), aa.cell? (blk q4) = some (.pointer bt) ∧
 ∀ (a8 : World), Ext no aa a8 →
 enters Try.prog c1 = true ∧ Calls Try.prog c1 (cu.toList ++ ([] : List Value) ++ d7.toList).toArray a8 (fun e3 ap => ∃ (ej : Int), e3 = .returned (.int .i64 ej) ∧
 ap.cell? (blk q4) = some (.pointer bt) ∧
 Calls Try.prog 38 #[.pointer bt, .int .i64 ej] ap fun ez d2 => ∃ (b1 : Int), ez = .returned (.int .i64 b1) ∧
 (b1 ≠ 0 →
 R (.int .i64 b1) d2) ∧
 (b1 = 0 →
 (-9223372036854775808 : Int) ≤ (cm + 1) ∧ (cm + 1) < 9223372036854775808 ∧
 ∃ ey, ey < ex ∧ I1 ey [.int .i64 (cm + 1)] d2))) ∧
 ((4 : Int) ≤ cm →
 ∃ (bv : Option Addr), aa.cell? (blk q4) = some (.pointer bv) ∧
 ∃ (b0 : Option Addr), aa.cell? (blk q4) = some (.pointer b0) ∧
 ∃ (ak : Int), aa.cell? (blk ai) = some (.int .u32 ak) ∧
 ∃ (bu : Option Addr), aa.cell? (blk bl) = some (.pointer bu) ∧
 ∃ dn : Addr, bv = some dn ∧
 ∀ (c9 : World), Ext no aa c9 →
 canStore c9 ((dn.add 2).add 0) ∧
 thenW (c9.setCell ((dn.add 2).add 0) (.int .u32 ak)) fun ad =>
 ad.cell? (blk bl) = some (.pointer bu) ∧
 ad.cell? (blk q4) = some (.pointer b0) ∧
 ∃ dk : Addr, b0 = some dk ∧
 canStore ad ((dk.add 3).add 0) ∧
 thenW (ad.setCell ((dk.add 3).add 0) (.pointer bu)) fun bc =>
 R (.int .i64 0) bc))) ∧
 (∀ (ah : World) (df : Nat), Ext no a6 ah → Blk ah df 26 [.int .i64 0] → a6.heap.size ≤ df → df < ah.heap.size →
 ah.cell? (blk ai) = some (.int .u32 bz) ∧
 ah.cell? (ct.add 1) = some (.int .i64 a0) ∧
 ah.cell? (blk q4) = some (.pointer cv) ∧
 ah.cell? (blk ai) = some (.int .u32 f7) ∧
 ah.cell? (blk q4) = some (.pointer f6) ∧
 ah.cell? (d3.add 0) = some (.pointer c0) ∧
 ah.cell? (blk q4) = some (.pointer cx) ∧
 ∀ (a4 : World) (f9 : List Nat), Ext no ah a4 → Priv ah a4 f9 →
 Calls Try.prog 27 #[.pointer f6, .int .u32 f7] a4 fun da aj => ∃ (c7 : Int), da = .returned (.int .i64 c7) ∧
 Keep f9 a4 aj ∧
 aj.cell? (blk ai) = some (.int .u32 bz) ∧
 aj.cell? (ct.add 1) = some (.int .i64 a0) ∧
 aj.cell? (blk q4) = some (.pointer cv) ∧
 aj.cell? (d3.add 0) = some (.pointer c0) ∧
 aj.cell? (blk q4) = some (.pointer cx) ∧
 ∀ (bi : World) (fk : List Nat), Ext (fun b => b ∈ f9) aj bi → PrivJ f9 aj bi fk →
 Calls Try.prog 29 #[.pointer c0, .int .i64 c7, .int .i64 a0, .int .u32 bz] bi fun ft bh => ∃ (b7 : Option Addr) (b3 : Int), ft = .returned (.tuple #[.pointer b7, .int .i64 b3]) ∧
 Keep fk bi bh ∧
 ∀ (cg : World), Ext (fun b => b ∈ fk) bh cg →
 canStore cg ((blk bl).add 0) ∧
 thenW (cg.setCell ((blk bl).add 0) (.pointer b7)) fun bm =>
 canStore bm ((blk df).add 0) ∧
 thenW (bm.setCell ((blk df).add 0) (.int .i64 b3)) fun co =>
 ∃ (g2 : Option Addr), co.cell? (blk q4) = some (.pointer g2) ∧
 ∃ gk : Addr, g2 = some gk ∧
 ∃ (gd : Option Addr), co.cell? (gk.add 0) = some (.pointer gd) ∧
 ∀ (an : World) (fa : Nat), Ext no co an → Blk an fa 68 [.func (.func 30) #[] #[.pointer (some (blk df))], .func (.func 31) #[] #[.pointer (some (blk bl)), .pointer (some (blk q6))], .func (.func 33) #[] #[.pointer (some (blk q4)), .pointer (some (blk ai))], .func (.func 37) #[.pointer gd] #[]] → co.heap.size ≤ fa → fa < an.heap.size →
 ∃ (I1 : Nat → List Value → World → Prop) (fj : Nat), I1 fj [.int .i64 0] an ∧ ∀ (f4 : Nat) (a1 : World) (ay : Int), I1 f4 [.int .i64 ay] a1 →
 (ay < (4 : Int) →
 0 ≤ (ay : Int) ∧ (ay : Int) < (4 : Int) ∧
 ∃ (cd : Nat) (d1 : Array Value) (cs : Array Value), a1.cell? ((blk fa).add (Int.toNat ay * 1)) = some (.func (.func cd) d1 cs) ∧
 ∃ (bo : Option Addr), a1.cell? (blk q4) = some (.pointer bo) ∧
 ∀ (bb : World), Ext no a1 bb →
 enters Try.prog cd = true ∧ Calls Try.prog cd (d1.toList ++ ([] : List Value) ++ cs.toList).toArray bb (fun c2 a5 => ∃ (el : Int), c2 = .returned (.int .i64 el) ∧
 a5.cell? (blk q4) = some (.pointer bo) ∧
 Calls Try.prog 38 #[.pointer bo, .int .i64 el] a5 fun f5 d0 => ∃ (ar : Int), f5 = .returned (.int .i64 ar) ∧
 (ar ≠ 0 →
 R (.int .i64 ar) d0) ∧
 (ar = 0 →
 (-9223372036854775808 : Int) ≤ (ay + 1) ∧ (ay + 1) < 9223372036854775808 ∧
 ∃ ee, ee < f4 ∧ I1 ee [.int .i64 (ay + 1)] d0))) ∧
 ((4 : Int) ≤ ay →
 ∃ (b0 : Option Addr), a1.cell? (blk q4) = some (.pointer b0) ∧
 ∃ (ak : Option Addr), a1.cell? (blk q4) = some (.pointer ak) ∧
 ∃ (bu : Int), a1.cell? (blk ai) = some (.int .u32 bu) ∧
 ∃ (dh : Option Addr), a1.cell? (blk bl) = some (.pointer dh) ∧
 ∃ bk : Addr, b0 = some bk ∧
 ∀ (b9 : World), Ext no a1 b9 →
 canStore b9 ((bk.add 2).add 0) ∧
 thenW (b9.setCell ((bk.add 2).add 0) (.int .u32 bu)) fun ao =>
 ao.cell? (blk bl) = some (.pointer dh) ∧
 ao.cell? (blk q4) = some (.pointer ak) ∧
 ∃ ds : Addr, ak = some ds ∧
 canStore ao ((ds.add 3).add 0) ∧
 thenW (ao.setCell ((ds.add 3).add 0) (.pointer dh)) fun b6 =>
 R (.int .i64 0) b6))) ∧
 (∀ (a6 : World) (bl : Nat), Ext no bw a6 → Blk a6 bl 26 [.int .i64 0] → bw.heap.size ≤ bl → bl < a6.heap.size →
 a6.cell? (blk ai) = some (.int .u32 bz) ∧
 a6.cell? (ct.add 1) = some (.int .i64 a0) ∧
 a6.cell? (blk q4) = some (.pointer cv) ∧
 a6.cell? (blk ai) = some (.int .u32 f7) ∧
 a6.cell? (blk q4) = some (.pointer f6) ∧
 a6.cell? (d3.add 0) = some (.pointer c0) ∧
 a6.cell? (blk q4) = some (.pointer cx) ∧
 (∀ (a3 : World) (ei : List Nat), Ext no a6 a3 → Priv a6 a3 ei →
 Calls Try.prog 27 #[.pointer f6, .int .u32 f7] a3 fun fp az => ∃ (bj : Int), fp = .returned (.int .i64 bj) ∧
 Keep ei a3 az ∧
 az.cell? (blk ai) = some (.int .u32 bz) ∧
 az.cell? (ct.add 1) = some (.int .i64 a0) ∧
 az.cell? (blk q4) = some (.pointer cv) ∧
 az.cell? (d3.add 0) = some (.pointer c0) ∧
 az.cell? (blk q4) = some (.pointer cx) ∧
 (∀ (bg : World) (fs : List Nat), Ext (fun b => b ∈ ei) az bg → PrivJ ei az bg fs →
 Calls Try.prog 29 #[.pointer c0, .int .i64 bj, .int .i64 a0, .int .u32 bz] bg fun fx f2 => ∃ (ba : Option Addr) (b4 : Int), fx = .returned (.tuple #[.pointer ba, .int .i64 b4]) ∧
 Keep fs bg f2 ∧
 ∀ (ad : World), Ext (fun b => b ∈ fs) f2 ad →
 ∀ (ab : World) (dq : Nat), Ext no ad ab → Blk ab dq 58 [.pointer none] → ad.heap.size ≤ dq → dq < ab.heap.size →
 canStore ab ((blk dq).add 0) ∧
 thenW (ab.setCell ((blk dq).add 0) (.pointer ba)) fun ag =>
 canStore ag ((blk bl).add 0) ∧
 thenW (ag.setCell ((blk bl).add 0) (.int .i64 b4)) fun cr =>
 ∃ (gj : Option Addr), cr.cell? (blk q4) = some (.pointer gj) ∧
 ∃ g5 : Addr, gj = some g5 ∧
 ∃ (ge : Option Addr), cr.cell? (g5.add 0) = some (.pointer ge) ∧
 ∀ (bm : World) (fd : Nat), Ext no cr bm → Blk bm fd 68 [.func (.func 30) #[] #[.pointer (some (blk bl))], .func (.func 31) #[] #[.pointer (some (blk dq)), .pointer (some (blk q6))], .func (.func 33) #[] #[.pointer (some (blk q4)), .pointer (some (blk ai))], .func (.func 37) #[.pointer ge] #[]] → cr.heap.size ≤ fd → fd < bm.heap.size →
 ∃ (I1 : Nat → List Value → World → Prop) (gv : Nat), I1 gv [.int .i64 0] bm ∧ ∀ (gi : Nat) (a7 : World) (cn : Int), I1 gi [.int .i64 cn] a7 →
 (cn < (4 : Int) →
 0 ≤ (cn : Int) ∧ (cn : Int) < (4 : Int) ∧
 ∃ (dg : Nat) (ev : Array Value) (ea : Array Value), a7.cell? ((blk fd).add (Int.toNat cn * 1)) = some (.func (.func dg) ev ea) ∧
 ∃ (dj : Option Addr), a7.cell? (blk q4) = some (.pointer dj) ∧
 ∀ (cw : World), Ext no a7 cw →
 enters Try.prog dg = true ∧ Calls Try.prog dg (ev.toList ++ ([] : List Value) ++ ea.toList).toArray cw (fun es a8 => ∃ (e6 : Int), es = .returned (.int .i64 e6) ∧
 a8.cell? (blk q4) = some (.pointer dj) ∧
 Calls Try.prog 38 #[.pointer dj, .int .i64 e6] a8 fun f0 d4 => ∃ (aq : Int), f0 = .returned (.int .i64 aq) ∧
 (aq ≠ 0 →
 R (.int .i64 aq) d4) ∧
 (aq = 0 →
 (-9223372036854775808 : Int) ≤ (cn + 1) ∧ (cn + 1) < 9223372036854775808 ∧
 ∃ eb, eb < gi ∧ I1 eb [.int .i64 (cn + 1)] d4))) ∧
 ((4 : Int) ≤ cn →
 ∃ (bq : Option Addr), a7.cell? (blk q4) = some (.pointer bq) ∧
 ∃ (bx : Option Addr), a7.cell? (blk q4) = some (.pointer bx) ∧
 ∃ (bs : Int), a7.cell? (blk ai) = some (.int .u32 bs) ∧
 ∃ (dy : Option Addr), a7.cell? (blk dq) = some (.pointer dy) ∧
 ∃ d9 : Addr, bq = some d9 ∧
 ∀ (a5 : World), Ext no a7 a5 →
 canStore a5 ((d9.add 2).add 0) ∧
 thenW (a5.setCell ((d9.add 2).add 0) (.int .u32 bs)) fun bp =>
 bp.cell? (blk dq) = some (.pointer dy) ∧
 bp.cell? (blk q4) = some (.pointer bx) ∧
 ∃ dm : Addr, bx = some dm ∧
 canStore bp ((dm.add 3).add 0) ∧
 thenW (bp.setCell ((dm.add 3).add 0) (.pointer dy)) fun ed =>
 R (.int .i64 0) ed)) ∧
 (∀ (b6 : World), Ext (fun b => b ∈ ei) az b6 →
 ∀ (a4 : World) (dz : Nat), Ext no b6 a4 → Blk a4 dz 58 [.pointer none] → b6.heap.size ≤ dz → dz < a4.heap.size →
 a4.cell? (blk ai) = some (.int .u32 bz) ∧
 a4.cell? (ct.add 1) = some (.int .i64 a0) ∧
 a4.cell? (blk q4) = some (.pointer cv) ∧
 a4.cell? (d3.add 0) = some (.pointer c0) ∧
 a4.cell? (blk q4) = some (.pointer cx) ∧
 ∀ (ag : World) (fo : List Nat), Ext no a4 ag → Priv a4 ag fo →
 Calls Try.prog 29 #[.pointer c0, .int .i64 bj, .int .i64 a0, .int .u32 bz] ag fun fr bn => ∃ (b2 : Option Addr) (bd : Int), fr = .returned (.tuple #[.pointer b2, .int .i64 bd]) ∧
 Keep fo ag bn ∧
 ∀ (cc : World), Ext (fun b => b ∈ fo) bn cc →
 canStore cc ((blk dz).add 0) ∧
 thenW (cc.setCell ((blk dz).add 0) (.pointer b2)) fun a2 =>
 canStore a2 ((blk bl).add 0) ∧
 thenW (a2.setCell ((blk bl).add 0) (.int .i64 bd)) fun bh =>
 ∃ (g6 : Option Addr), bh.cell? (blk q4) = some (.pointer g6) ∧
 ∃ gc : Addr, g6 = some gc ∧
 ∃ (g7 : Option Addr), bh.cell? (gc.add 0) = some (.pointer g7) ∧
 ∀ (a7 : World) (fg : Nat), Ext no bh a7 → Blk a7 fg 68 [.func (.func 30) #[] #[.pointer (some (blk bl))], .func (.func 31) #[] #[.pointer (some (blk dz)), .pointer (some (blk q6))], .func (.func 33) #[] #[.pointer (some (blk q4)), .pointer (some (blk ai))], .func (.func 37) #[.pointer g7] #[]] → bh.heap.size ≤ fg → fg < a7.heap.size →
 ∃ (I1 : Nat → List Value → World → Prop) (gq : Nat), I1 gq [.int .i64 0] a7 ∧ ∀ (ex : Nat) (aa : World) (cm : Int), I1 ex [.int .i64 cm] aa →
 (cm < (4 : Int) →
 0 ≤ (cm : Int) ∧ (cm : Int) < (4 : Int) ∧
 ∃ (c1 : Nat) (cu : Array Value) (d7 : Array Value), aa.cell? ((blk fg).add (Int.toNat cm * 1)) = some (.func (.func c1) cu d7) ∧
 ∃ (bt : Option Addr), aa.cell? (blk q4) = some (.pointer bt) ∧
 ∀ (a8 : World), Ext no aa a8 →
 enters Try.prog c1 = true ∧ Calls Try.prog c1 (cu.toList ++ ([] : List Value) ++ d7.toList).toArray a8 (fun e3 ap => ∃ (ej : Int), e3 = .returned (.int .i64 ej) ∧
 ap.cell? (blk q4) = some (.pointer bt) ∧
 Calls Try.prog 38 #[.pointer bt, .int .i64 ej] ap fun ez d2 => ∃ (b1 : Int), ez = .returned (.int .i64 b1) ∧
 (b1 ≠ 0 →
 R (.int .i64 b1) d2) ∧
 (b1 = 0 →
 (-9223372036854775808 : Int) ≤ (cm + 1) ∧ (cm + 1) < 9223372036854775808 ∧
 ∃ ey, ey < ex ∧ I1 ey [.int .i64 (cm + 1)] d2))) ∧
 ((4 : Int) ≤ cm →
 ∃ (bv : Option Addr), aa.cell? (blk q4) = some (.pointer bv) ∧
 ∃ (b0 : Option Addr), aa.cell? (blk q4) = some (.pointer b0) ∧
 ∃ (ak : Int), aa.cell? (blk ai) = some (.int .u32 ak) ∧
 ∃ (bu : Option Addr), aa.cell? (blk dz) = some (.pointer bu) ∧
 ∃ dn : Addr, bv = some dn ∧
 ∀ (c9 : World), Ext no aa c9 →
 canStore c9 ((dn.add 2).add 0) ∧
 thenW (c9.setCell ((dn.add 2).add 0) (.int .u32 ak)) fun ad =>
 ad.cell? (blk dz) = some (.pointer bu) ∧
 ad.cell? (blk q4) = some (.pointer b0) ∧
 ∃ dk : Addr, b0 = some dk ∧
 canStore ad ((dk.add 3).add 0) ∧
 thenW (ad.setCell ((dk.add 3).add 0) (.pointer bu)) fun bc =>
 R (.int .i64 0) bc))) ∧
 (∀ (ah : World) (df : Nat), Ext no a6 ah → Blk ah df 58 [.pointer none] → a6.heap.size ≤ df → df < ah.heap.size →
 ah.cell? (blk ai) = some (.int .u32 bz) ∧
 ah.cell? (ct.add 1) = some (.int .i64 a0) ∧
 ah.cell? (blk q4) = some (.pointer cv) ∧
 ah.cell? (blk ai) = some (.int .u32 f7) ∧
 ah.cell? (blk q4) = some (.pointer f6) ∧
 ah.cell? (d3.add 0) = some (.pointer c0) ∧
 ah.cell? (blk q4) = some (.pointer cx) ∧
 ∀ (a4 : World) (f9 : List Nat), Ext no ah a4 → Priv ah a4 f9 →
 Calls Try.prog 27 #[.pointer f6, .int .u32 f7] a4 fun da aj => ∃ (c7 : Int), da = .returned (.int .i64 c7) ∧
 Keep f9 a4 aj ∧
 aj.cell? (blk ai) = some (.int .u32 bz) ∧
 aj.cell? (ct.add 1) = some (.int .i64 a0) ∧
 aj.cell? (blk q4) = some (.pointer cv) ∧
 aj.cell? (d3.add 0) = some (.pointer c0) ∧
 aj.cell? (blk q4) = some (.pointer cx) ∧
 ∀ (bi : World) (fk : List Nat), Ext (fun b => b ∈ f9) aj bi → PrivJ f9 aj bi fk →
 Calls Try.prog 29 #[.pointer c0, .int .i64 c7, .int .i64 a0, .int .u32 bz] bi fun ft bh => ∃ (b7 : Option Addr) (b3 : Int), ft = .returned (.tuple #[.pointer b7, .int .i64 b3]) ∧
 Keep fk bi bh ∧
 ∀ (cg : World), Ext (fun b => b ∈ fk) bh cg →
 canStore cg ((blk df).add 0) ∧
 thenW (cg.setCell ((blk df).add 0) (.pointer b7)) fun bm =>
 canStore bm ((blk bl).add 0) ∧
 thenW (bm.setCell ((blk bl).add 0) (.int .i64 b3)) fun co =>
 ∃ (g2 : Option Addr), co.cell? (blk q4) = some (.pointer g2) ∧
 ∃ gk : Addr, g2 = some gk ∧
 ∃ (gd : Option Addr), co.cell? (gk.add 0) = some (.pointer gd) ∧
 ∀ (an : World) (fa : Nat), Ext no co an → Blk an fa 68 [.func (.func 30) #[] #[.pointer (some (blk bl))], .func (.func 31) #[] #[.pointer (some (blk df)), .pointer (some (blk q6))], .func (.func 33) #[] #[.pointer (some (blk q4)), .pointer (some (blk ai))], .func (.func 37) #[.pointer gd] #[]] → co.heap.size ≤ fa → fa < an.heap.size →
 ∃ (I1 : Nat → List Value → World → Prop) (fj : Nat), I1 fj [.int .i64 0] an ∧ ∀ (f4 : Nat) (a1 : World) (ay : Int), I1 f4 [.int .i64 ay] a1 →
 (ay < (4 : Int) →
 0 ≤ (ay : Int) ∧ (ay : Int) < (4 : Int) ∧
 ∃ (cd : Nat) (d1 : Array Value) (cs : Array Value), a1.cell? ((blk fa).add (Int.toNat ay * 1)) = some (.func (.func cd) d1 cs) ∧
 ∃ (bo : Option Addr), a1.cell? (blk q4) = some (.pointer bo) ∧
 ∀ (bb : World), Ext no a1 bb →
 enters Try.prog cd = true ∧ Calls Try.prog cd (d1.toList ++ ([] : List Value) ++ cs.toList).toArray bb (fun c2 a5 => ∃ (el : Int), c2 = .returned (.int .i64 el) ∧
 a5.cell? (blk q4) = some (.pointer bo) ∧
 Calls Try.prog 38 #[.pointer bo, .int .i64 el] a5 fun f5 d0 => ∃ (ar : Int), f5 = .returned (.int .i64 ar) ∧
 (ar ≠ 0 →
 R (.int .i64 ar) d0) ∧
 (ar = 0 →
 (-9223372036854775808 : Int) ≤ (ay + 1) ∧ (ay + 1) < 9223372036854775808 ∧
 ∃ ee, ee < f4 ∧ I1 ee [.int .i64 (ay + 1)] d0))) ∧
 ((4 : Int) ≤ ay →
 ∃ (b0 : Option Addr), a1.cell? (blk q4) = some (.pointer b0) ∧
 ∃ (ak : Option Addr), a1.cell? (blk q4) = some (.pointer ak) ∧
 ∃ (bu : Int), a1.cell? (blk ai) = some (.int .u32 bu) ∧
 ∃ (dh : Option Addr), a1.cell? (blk df) = some (.pointer dh) ∧
 ∃ bk : Addr, b0 = some bk ∧
 ∀ (b9 : World), Ext no a1 b9 →
 canStore b9 ((bk.add 2).add 0) ∧
 thenW (b9.setCell ((bk.add 2).add 0) (.int .u32 bu)) fun ao =>
 ao.cell? (blk df) = some (.pointer dh) ∧
 ao.cell? (blk q4) = some (.pointer ak) ∧
 ∃ ds : Addr, ak = some ds ∧
 canStore ao ((ds.add 3).add 0) ∧
 thenW (ao.setCell ((ds.add 3).add 0) (.pointer dh)) fun b6 =>
 R (.int .i64 0) b6))))))))

theorem snapshot_Store_Compact.up (s1 : Option Addr) (dr : Option Addr) (ed : Nat) (eq : Nat) {R : Value → World → Prop} {w : World} (h : snapshot_Store_Compact.N s1 dr ed eq R w) : snapshot_Store_Compact.M s1 dr ed eq R w := by
  unfold snapshot_Store_Compact.M
  unfold snapshot_Store_Compact.N at h
  refine thenW_in fun jq e3 => ?_
  have h := h jq w.heap.size ((Ext.refl no w).x_alloc e3) (Blk.of_new e3) ((Ext.refl no w)).size (size_lt_alloc e3)
  refine thenW_in fun m6 e5 => ?_
  have h := h m6 jq.heap.size ((Ext.refl no jq).x_alloc e5) (Blk.of_new e5) ((Ext.refl no jq)).size (size_lt_alloc e5)
  obtain ⟨x8, mb, h⟩ := h
  refine ⟨x8, mb, ?_⟩
  refine bif_of (fun c9 => ?_) (fun c9 => ?_)
  · have h := h.1 (isNone_t c9)
    exact h
  · have h := h.2 (isNone_f c9)
    obtain ⟨lr, gy, ks, kb, h⟩ := h
    refine ⟨lr, gy, ks, kb, ?_⟩
    refine (journal_Parts.pure (gy : Int)).mono fun ee ww12 ⟨he, hxx⟩ => ⟨(journal_Parts.F (gy : Int)), he, ?_⟩
    have ab := (Ext.refl no m6).trans hxx
    refine bif_of (fun m3 => ?_) (fun m3 => ?_)
    · have h := h.1 (beq_t m3)
      have h := h ww12 ab
      exact h
    · have h := h.2 (beq_f m3)
      obtain ⟨md, k8, h⟩ := h
      refine ⟨md, (ab).cell k8 id, ?_⟩
      obtain ⟨mt, jr, h⟩ := h
      refine elim_some jr ?_
      obtain ⟨ff, kl, h⟩ := h
      refine ⟨ff, (ab).cell kl id, ?_⟩
      refine bif_of (fun li => ?_) (fun li => ?_)
      · have h := h.1 li
        have h := h ww12 ab
        exact h
      · have h := h.2 li
        obtain ⟨mf, ku, h⟩ := h
        refine ⟨mf, (ab).cell ku id, ?_⟩
        obtain ⟨mw, lo, h⟩ := h
        refine elim_some lo ?_
        obtain ⟨ec, kj, h⟩ := h
        refine ⟨ec, (ab).cell kj id, ?_⟩
        refine bif_of (fun lj => ?_) (fun lj => ?_)
        · have h := h.1 (beq_t lj)
          have h := h ww12 ab
          exact h
        · have h := h.2 (beq_f lj)
          obtain ⟨mp, kz, h⟩ := h
          refine ⟨mp, (ab).cell kz id, ?_⟩
          obtain ⟨mx, kv, h⟩ := h
          refine elim_some kv ?_
          obtain ⟨iy, jw, h⟩ := h
          refine ⟨iy, (ab).cell jw id, ?_⟩
          refine bif_of (fun kc => ?_) (fun kc => ?_)
          · have h := h.1 (of_decide_eq_true kc)
            have h := h ww12 ab
            exact h
          · have h := h.2 (Int.not_lt.1 (of_decide_eq_false kc))
            obtain ⟨m8, k4, h⟩ := h
            refine ⟨m8, (ab).cell k4 id, ?_⟩
            obtain ⟨mv, k9, h⟩ := h
            refine elim_some k9 ?_
            obtain ⟨dm, kd, h⟩ := h
            refine ⟨dm, (ab).cell kd id, ?_⟩
            refine thenW_in fun k3 lp => ?_
            have h := h k3 ww12.heap.size (ab.x_alloc lp) (Blk.of_new lp) (ab).size (size_lt_alloc lp)
            obtain ⟨hcs, h⟩ := h
            refine ⟨hcs, thenW_in fun l9 mk => ?_⟩
            replace h := thenW_out h mk
            refine thenW_in fun i6 mo => ?_
            have aj := (Ext.refl no l9).x_drew mo
            obtain ⟨mm, kx, h⟩ := h
            refine ⟨mm, (aj).cell kx id, ?_⟩
            obtain ⟨mu, lm, h⟩ := h
            refine elim_some lm ?_
            obtain ⟨ma, jx, h⟩ := h
            refine ⟨ma, (aj).cell jx id, ?_⟩
            obtain ⟨m7, k1, h⟩ := h
            refine ⟨m7, (aj).cell k1 id, ?_⟩
            obtain ⟨mr, le, h⟩ := h
            refine ⟨mr, (aj).cell le id, ?_⟩
            obtain ⟨me, kt, h⟩ := h
            refine ⟨me, (aj).cell kt id, ?_⟩
            obtain ⟨ms, ki, h⟩ := h
            refine elim_some ki ?_
            obtain ⟨i3, k0, h⟩ := h
            refine ⟨i3, (aj).cell k0 id, ?_⟩
            obtain ⟨mi, l7, h⟩ := h
            refine ⟨mi, (aj).cell l7 id, ?_⟩
            obtain ⟨h0', h1', h2'⟩ := h
            refine ⟨?_, ?_, ?_⟩
            · have h := h0'
              have h := h i6 [] aj Priv.nil
              refine h.mono fun mc ai h => ?_
              obtain ⟨gv, he, hkL, h⟩ := h
              refine ⟨gv, he, ?_⟩
              obtain ⟨ea, db, dc, dd, kk, h⟩ := h
              refine ⟨ea, db, dc, dd, kk, ?_⟩
              obtain ⟨h0', h1', h2'⟩ := h
              refine ⟨?_, ?_, ?_⟩
              · have h := h0'
                have h := h ai [] (Ext.refl (fun b => b ∈ ([] : List Nat)) ai) PrivJ.nil
                refine h.mono fun mg bk h => ?_
                obtain ⟨d8, f4, he, hkL, h⟩ := h
                refine ⟨d8, f4, he, ?_⟩
                obtain ⟨h0', h1'⟩ := h
                refine ⟨?_, ?_⟩
                · have h := h0'
                  have h := h bk (Ext.refl (fun b => b ∈ ([] : List Nat)) bk)
                  refine thenW_in fun bl it => ?_
                  have h := h bl bk.heap.size ((Ext.refl no bk).x_alloc it) (Blk.of_new it) ((Ext.refl no bk)).size (size_lt_alloc it)
                  refine thenW_in fun i2 iq => ?_
                  have h := h i2 bl.heap.size ((Ext.refl no bl).x_alloc iq) (Blk.of_new iq) ((Ext.refl no bl)).size (size_lt_alloc iq)
                  obtain ⟨hcs, h⟩ := h
                  refine ⟨hcs, thenW_in fun lg l0 => ?_⟩
                  replace h := thenW_out h l0
                  obtain ⟨hcs, h⟩ := h
                  refine ⟨hcs, thenW_in fun bv ju => ?_⟩
                  replace h := thenW_out h ju
                  obtain ⟨m4, fe, h⟩ := h
                  refine ⟨m4, fe, ?_⟩
                  obtain ⟨mn, ga, h⟩ := h
                  refine elim_some ga ?_
                  obtain ⟨lx, fc, h⟩ := h
                  refine ⟨lx, fc, ?_⟩
                  refine thenW_in fun f1 e6 => ?_
                  have h := h f1 bv.heap.size ((Ext.refl no bv).x_alloc e6) (Blk.of_new e6) ((Ext.refl no bv)).size (size_lt_alloc e6)
                  obtain ⟨I1, lf, h0, h⟩ := h
                  refine ⟨I1, lf, h0, fun kh af km hI => ?_⟩
                  have h := h kh af km hI
                  refine bif_of (fun ii => ?_) (fun ii => ?_)
                  · have h := h.1 (of_decide_eq_true ii)
                    obtain ⟨bb, b2, h⟩ := h
                    refine ⟨bb, b2, ?_⟩
                    obtain ⟨iu, g1, g4, cl, h⟩ := h
                    refine ⟨iu, g1, g4, cl, ?_⟩
                    refine thenW_in fun j3 k2 => ?_
                    have dl := (Ext.refl no af).x_drew k2
                    obtain ⟨lh, cd, h⟩ := h
                    refine ⟨lh, (dl).cell cd id, ?_⟩
                    have h := h j3 dl
                    obtain ⟨hen, h⟩ := h
                    refine bif_tt hen ?_
                    refine h.mono fun k6 bm h => ?_
                    obtain ⟨lb, he, h⟩ := h
                    refine ⟨lb, he, ?_⟩
                    obtain ⟨j2, h⟩ := h
                    refine ⟨j2, ?_⟩
                    refine h.mono fun jb jf h => ?_
                    obtain ⟨cm, he, h⟩ := h
                    refine ⟨cm, he, ?_⟩
                    refine bif_of (fun bx => ?_) (fun bx => ?_)
                    · have h := h.1 (bne_t bx)
                      exact h
                    · have h := h.2 (bne_f bx)
                      obtain ⟨bd, au, h⟩ := h
                      try rw [w64 bd au]
                      obtain ⟨ir, hk, h⟩ := h
                      exact ⟨ir, hk, h⟩
                  · have h := h.2 (Int.not_lt.1 (of_decide_eq_false ii))
                    refine thenW_in fun ac c4 => ?_
                    have a0 := (Ext.refl no af).x_drew c4
                    obtain ⟨ct, ba, h⟩ := h
                    refine ⟨ct, (a0).cell ba id, ?_⟩
                    obtain ⟨c5, b9, h⟩ := h
                    refine ⟨c5, (a0).cell b9 id, ?_⟩
                    obtain ⟨fl, ev, h⟩ := h
                    refine ⟨fl, (a0).cell ev id, ?_⟩
                    obtain ⟨gp, di, h⟩ := h
                    refine ⟨gp, (a0).cell di id, ?_⟩
                    obtain ⟨l6, d9, h⟩ := h
                    refine elim_some d9 ?_
                    have h := h ac a0
                    obtain ⟨hcs, h⟩ := h
                    refine ⟨hcs, thenW_in fun br c2 => ?_⟩
                    replace h := thenW_out h c2
                    obtain ⟨en, du, h⟩ := h
                    refine ⟨en, du, ?_⟩
                    obtain ⟨la, dz, h⟩ := h
                    refine elim_some dz ?_
                    obtain ⟨hcs, h⟩ := h
                    refine ⟨hcs, thenW_in fun bq ca => ?_⟩
                    replace h := thenW_out h ca
                    exact h
                · have h := h1'
                  have h := h bk (Ext.refl (fun b => b ∈ ([] : List Nat)) bk)
                  refine thenW_in fun bl it => ?_
                  have h := h bl bk.heap.size ((Ext.refl no bk).x_alloc it) (Blk.of_new it) ((Ext.refl no bk)).size (size_lt_alloc it)
                  refine thenW_in fun i2 iq => ?_
                  have h := h i2 bl.heap.size ((Ext.refl no bl).x_alloc iq) (Blk.of_new iq) ((Ext.refl no bl)).size (size_lt_alloc iq)
                  obtain ⟨hcs, h⟩ := h
                  refine ⟨hcs, thenW_in fun lg l0 => ?_⟩
                  replace h := thenW_out h l0
                  obtain ⟨hcs, h⟩ := h
                  refine ⟨hcs, thenW_in fun bv ju => ?_⟩
                  replace h := thenW_out h ju
                  obtain ⟨m4, fe, h⟩ := h
                  refine ⟨m4, fe, ?_⟩
                  obtain ⟨mn, ga, h⟩ := h
                  refine elim_some ga ?_
                  obtain ⟨lx, fc, h⟩ := h
                  refine ⟨lx, fc, ?_⟩
                  refine thenW_in fun f1 e6 => ?_
                  have h := h f1 bv.heap.size ((Ext.refl no bv).x_alloc e6) (Blk.of_new e6) ((Ext.refl no bv)).size (size_lt_alloc e6)
                  obtain ⟨I1, lf, h0, h⟩ := h
                  refine ⟨I1, lf, h0, fun kh af km hI => ?_⟩
                  have h := h kh af km hI
                  refine bif_of (fun ii => ?_) (fun ii => ?_)
                  · have h := h.1 (of_decide_eq_true ii)
                    obtain ⟨bb, b2, h⟩ := h
                    refine ⟨bb, b2, ?_⟩
                    obtain ⟨iu, g1, g4, cl, h⟩ := h
                    refine ⟨iu, g1, g4, cl, ?_⟩
                    refine thenW_in fun j3 k2 => ?_
                    have dl := (Ext.refl no af).x_drew k2
                    obtain ⟨lh, cd, h⟩ := h
                    refine ⟨lh, (dl).cell cd id, ?_⟩
                    have h := h j3 dl
                    obtain ⟨hen, h⟩ := h
                    refine bif_tt hen ?_
                    refine h.mono fun k6 bm h => ?_
                    obtain ⟨lb, he, h⟩ := h
                    refine ⟨lb, he, ?_⟩
                    obtain ⟨j2, h⟩ := h
                    refine ⟨j2, ?_⟩
                    refine h.mono fun jb jf h => ?_
                    obtain ⟨cm, he, h⟩ := h
                    refine ⟨cm, he, ?_⟩
                    refine bif_of (fun bx => ?_) (fun bx => ?_)
                    · have h := h.1 (bne_t bx)
                      exact h
                    · have h := h.2 (bne_f bx)
                      obtain ⟨bd, au, h⟩ := h
                      try rw [w64 bd au]
                      obtain ⟨ir, hk, h⟩ := h
                      exact ⟨ir, hk, h⟩
                  · have h := h.2 (Int.not_lt.1 (of_decide_eq_false ii))
                    refine thenW_in fun ac c4 => ?_
                    have a0 := (Ext.refl no af).x_drew c4
                    obtain ⟨ct, ba, h⟩ := h
                    refine ⟨ct, (a0).cell ba id, ?_⟩
                    obtain ⟨c5, b9, h⟩ := h
                    refine ⟨c5, (a0).cell b9 id, ?_⟩
                    obtain ⟨fl, ev, h⟩ := h
                    refine ⟨fl, (a0).cell ev id, ?_⟩
                    obtain ⟨gp, di, h⟩ := h
                    refine ⟨gp, (a0).cell di id, ?_⟩
                    obtain ⟨l6, d9, h⟩ := h
                    refine elim_some d9 ?_
                    have h := h ac a0
                    obtain ⟨hcs, h⟩ := h
                    refine ⟨hcs, thenW_in fun br c2 => ?_⟩
                    replace h := thenW_out h c2
                    obtain ⟨en, du, h⟩ := h
                    refine ⟨en, du, ?_⟩
                    obtain ⟨la, dz, h⟩ := h
                    refine elim_some dz ?_
                    obtain ⟨hcs, h⟩ := h
                    refine ⟨hcs, thenW_in fun bq ca => ?_⟩
                    replace h := thenW_out h ca
                    exact h
              · have h := h1'
                have h := h ai (Ext.refl (fun b => b ∈ ([] : List Nat)) ai)
                refine thenW_in fun ah i4 => ?_
                have h := h ah ai.heap.size ((Ext.refl no ai).x_alloc i4) (Blk.of_new i4) ((Ext.refl no ai)).size (size_lt_alloc i4)
                obtain ⟨d3, c1, aw, ak, b4, h⟩ := h
                refine ⟨d3, c1, aw, ak, b4, ?_⟩
                obtain ⟨h0', h1'⟩ := h
                refine ⟨?_, ?_⟩
                · have h := h0'
                  have h := h ah [] (Ext.refl no ah) Priv.nil
                  refine h.mono fun fz a5 h => ?_
                  obtain ⟨b7, be, he, hkL, h⟩ := h
                  refine ⟨b7, be, he, ?_⟩
                  have h := h a5 (Ext.refl (fun b => b ∈ ([] : List Nat)) a5)
                  refine thenW_in fun ip gj => ?_
                  have h := h ip a5.heap.size ((Ext.refl no a5).x_alloc gj) (Blk.of_new gj) ((Ext.refl no a5)).size (size_lt_alloc gj)
                  obtain ⟨hcs, h⟩ := h
                  refine ⟨hcs, thenW_in fun f6 dh => ?_⟩
                  replace h := thenW_out h dh
                  obtain ⟨hcs, h⟩ := h
                  refine ⟨hcs, thenW_in fun c7 lk => ?_⟩
                  replace h := thenW_out h lk
                  obtain ⟨l1, j0, h⟩ := h
                  refine ⟨l1, j0, ?_⟩
                  obtain ⟨mj, gl, h⟩ := h
                  refine elim_some gl ?_
                  obtain ⟨ke, gz, h⟩ := h
                  refine ⟨ke, gz, ?_⟩
                  refine thenW_in fun af ep => ?_
                  have h := h af c7.heap.size ((Ext.refl no c7).x_alloc ep) (Blk.of_new ep) ((Ext.refl no c7)).size (size_lt_alloc ep)
                  obtain ⟨I1, ko, h0, h⟩ := h
                  refine ⟨I1, ko, h0, fun ka ay js hI => ?_⟩
                  have h := h ka ay js hI
                  refine bif_of (fun fw => ?_) (fun fw => ?_)
                  · have h := h.1 (of_decide_eq_true fw)
                    obtain ⟨bb, b2, h⟩ := h
                    refine ⟨bb, b2, ?_⟩
                    obtain ⟨fh, g5, ig, cu, h⟩ := h
                    refine ⟨fh, g5, ig, cu, ?_⟩
                    refine thenW_in fun bm es => ?_
                    have ei := (Ext.refl no ay).x_drew es
                    obtain ⟨gh, ih, h⟩ := h
                    refine ⟨gh, (ei).cell ih id, ?_⟩
                    have h := h bm ei
                    obtain ⟨hen, h⟩ := h
                    refine bif_tt hen ?_
                    refine h.mono fun j8 a1 h => ?_
                    obtain ⟨i0, he, h⟩ := h
                    refine ⟨i0, he, ?_⟩
                    obtain ⟨f5, h⟩ := h
                    refine ⟨f5, ?_⟩
                    refine h.mono fun ji bs h => ?_
                    obtain ⟨cr, he, h⟩ := h
                    refine ⟨cr, he, ?_⟩
                    refine bif_of (fun cq => ?_) (fun cq => ?_)
                    · have h := h.1 (bne_t cq)
                      exact h
                    · have h := h.2 (bne_f cq)
                      obtain ⟨bd, au, h⟩ := h
                      try rw [w64 bd au]
                      obtain ⟨gf, hk, h⟩ := h
                      exact ⟨gf, hk, h⟩
                  · have h := h.2 (Int.not_lt.1 (of_decide_eq_false fw))
                    refine thenW_in fun bt gt => ?_
                    have a7 := (Ext.refl no ay).x_drew gt
                    obtain ⟨i8, de, h⟩ := h
                    refine ⟨i8, (a7).cell de id, ?_⟩
                    obtain ⟨d1, bg, h⟩ := h
                    refine ⟨d1, (a7).cell bg id, ?_⟩
                    obtain ⟨cx, bj, h⟩ := h
                    refine ⟨cx, (a7).cell bj id, ?_⟩
                    obtain ⟨ce, b8, h⟩ := h
                    refine ⟨ce, (a7).cell b8 id, ?_⟩
                    obtain ⟨kg, e7, h⟩ := h
                    refine elim_some e7 ?_
                    have h := h bt a7
                    obtain ⟨hcs, h⟩ := h
                    refine ⟨hcs, thenW_in fun jn ib => ?_⟩
                    replace h := thenW_out h ib
                    obtain ⟨dj, dp, h⟩ := h
                    refine ⟨dj, dp, ?_⟩
                    obtain ⟨lw, da, h⟩ := h
                    refine elim_some da ?_
                    obtain ⟨hcs, h⟩ := h
                    refine ⟨hcs, thenW_in fun je fb => ?_⟩
                    replace h := thenW_out h fb
                    exact h
                · have h := h1'
                  refine thenW_in fun c0 i1 => ?_
                  have h := h c0 ah.heap.size ((Ext.refl no ah).x_alloc i1) (Blk.of_new i1) ((Ext.refl no ah)).size (size_lt_alloc i1)
                  obtain ⟨fy, gm, c6, co, bf, h⟩ := h
                  refine ⟨fy, gm, c6, co, bf, ?_⟩
                  have h := h c0 [] (Ext.refl no c0) Priv.nil
                  refine h.mono fun l8 eg h => ?_
                  obtain ⟨bi, b3, he, hkL, h⟩ := h
                  refine ⟨bi, b3, he, ?_⟩
                  have h := h eg (Ext.refl (fun b => b ∈ ([] : List Nat)) eg)
                  obtain ⟨hcs, h⟩ := h
                  refine ⟨hcs, thenW_in fun l5 m2 => ?_⟩
                  replace h := thenW_out h m2
                  obtain ⟨hcs, h⟩ := h
                  refine ⟨hcs, thenW_in fun ae kr => ?_⟩
                  replace h := thenW_out h kr
                  obtain ⟨lc, bu, h⟩ := h
                  refine ⟨lc, bu, ?_⟩
                  obtain ⟨mh, g8, h⟩ := h
                  refine elim_some g8 ?_
                  obtain ⟨ld, ix, h⟩ := h
                  refine ⟨ld, ix, ?_⟩
                  refine thenW_in fun ay gn => ?_
                  have h := h ay ae.heap.size ((Ext.refl no ae).x_alloc gn) (Blk.of_new gn) ((Ext.refl no ae)).size (size_lt_alloc gn)
                  obtain ⟨I1, m0, h0, h⟩ := h
                  refine ⟨I1, m0, h0, fun kf cb kn hI => ?_⟩
                  have h := h kf cb kn hI
                  refine bif_of (fun cj => ?_) (fun cj => ?_)
                  · have h := h.1 (of_decide_eq_true cj)
                    obtain ⟨bb, b2, h⟩ := h
                    refine ⟨bb, b2, ?_⟩
                    obtain ⟨dk, eb, ej, am, h⟩ := h
                    refine ⟨dk, eb, ej, am, ?_⟩
                    refine thenW_in fun a1 im => ?_
                    have bp := (Ext.refl no cb).x_drew im
                    obtain ⟨i5, f7, h⟩ := h
                    refine ⟨i5, (bp).cell f7 id, ?_⟩
                    have h := h a1 bp
                    obtain ⟨hen, h⟩ := h
                    refine bif_tt hen ?_
                    refine h.mono fun jg j9 h => ?_
                    obtain ⟨ia, he, h⟩ := h
                    refine ⟨ia, he, ?_⟩
                    obtain ⟨dw, h⟩ := h
                    refine ⟨dw, ?_⟩
                    refine h.mono fun ez al h => ?_
                    obtain ⟨bz, he, h⟩ := h
                    refine ⟨bz, he, ?_⟩
                    refine bif_of (fun cg => ?_) (fun cg => ?_)
                    · have h := h.1 (bne_t cg)
                      exact h
                    · have h := h.2 (bne_f cg)
                      obtain ⟨bd, au, h⟩ := h
                      try rw [w64 bd au]
                      obtain ⟨fp, hk, h⟩ := h
                      exact ⟨fp, hk, h⟩
                  · have h := h.2 (Int.not_lt.1 (of_decide_eq_false cj))
                    refine thenW_in fun br c2 => ?_
                    have a9 := (Ext.refl no cb).x_drew c2
                    obtain ⟨g9, f0, h⟩ := h
                    refine ⟨g9, (a9).cell f0 id, ?_⟩
                    obtain ⟨ch, ao, h⟩ := h
                    refine ⟨ch, (a9).cell ao id, ?_⟩
                    obtain ⟨b0, a6, h⟩ := h
                    refine ⟨b0, (a9).cell a6 id, ?_⟩
                    obtain ⟨ax, a2, h⟩ := h
                    refine ⟨ax, (a9).cell a2 id, ?_⟩
                    obtain ⟨kp, e1, h⟩ := h
                    refine elim_some e1 ?_
                    have h := h br a9
                    obtain ⟨hcs, h⟩ := h
                    refine ⟨hcs, thenW_in fun jh fg => ?_⟩
                    replace h := thenW_out h fg
                    obtain ⟨f9, e8, h⟩ := h
                    refine ⟨f9, e8, ?_⟩
                    obtain ⟨gs, aq, h⟩ := h
                    refine elim_some aq ?_
                    obtain ⟨hcs, h⟩ := h
                    refine ⟨hcs, thenW_in fun em d4 => ?_⟩
                    replace h := thenW_out h d4
                    exact h
              · have h := h2'
                have h := h ai (Ext.refl (fun b => b ∈ ([] : List Nat)) ai)
                refine thenW_in fun ah i4 => ?_
                have h := h ah ai.heap.size ((Ext.refl no ai).x_alloc i4) (Blk.of_new i4) ((Ext.refl no ai)).size (size_lt_alloc i4)
                obtain ⟨d3, c1, aw, ak, b4, h⟩ := h
                refine ⟨d3, c1, aw, ak, b4, ?_⟩
                obtain ⟨h0', h1'⟩ := h
                refine ⟨?_, ?_⟩
                · have h := h0'
                  have h := h ah [] (Ext.refl no ah) Priv.nil
                  refine h.mono fun fz a5 h => ?_
                  obtain ⟨b7, be, he, hkL, h⟩ := h
                  refine ⟨b7, be, he, ?_⟩
                  have h := h a5 (Ext.refl (fun b => b ∈ ([] : List Nat)) a5)
                  refine thenW_in fun ip gj => ?_
                  have h := h ip a5.heap.size ((Ext.refl no a5).x_alloc gj) (Blk.of_new gj) ((Ext.refl no a5)).size (size_lt_alloc gj)
                  obtain ⟨hcs, h⟩ := h
                  refine ⟨hcs, thenW_in fun f6 dh => ?_⟩
                  replace h := thenW_out h dh
                  obtain ⟨hcs, h⟩ := h
                  refine ⟨hcs, thenW_in fun c7 lk => ?_⟩
                  replace h := thenW_out h lk
                  obtain ⟨l1, j0, h⟩ := h
                  refine ⟨l1, j0, ?_⟩
                  obtain ⟨mj, gl, h⟩ := h
                  refine elim_some gl ?_
                  obtain ⟨ke, gz, h⟩ := h
                  refine ⟨ke, gz, ?_⟩
                  refine thenW_in fun af ep => ?_
                  have h := h af c7.heap.size ((Ext.refl no c7).x_alloc ep) (Blk.of_new ep) ((Ext.refl no c7)).size (size_lt_alloc ep)
                  obtain ⟨I1, ko, h0, h⟩ := h
                  refine ⟨I1, ko, h0, fun ka ay js hI => ?_⟩
                  have h := h ka ay js hI
                  refine bif_of (fun fw => ?_) (fun fw => ?_)
                  · have h := h.1 (of_decide_eq_true fw)
                    obtain ⟨bb, b2, h⟩ := h
                    refine ⟨bb, b2, ?_⟩
                    obtain ⟨fh, g5, ig, cu, h⟩ := h
                    refine ⟨fh, g5, ig, cu, ?_⟩
                    refine thenW_in fun bm es => ?_
                    have ei := (Ext.refl no ay).x_drew es
                    obtain ⟨gh, ih, h⟩ := h
                    refine ⟨gh, (ei).cell ih id, ?_⟩
                    have h := h bm ei
                    obtain ⟨hen, h⟩ := h
                    refine bif_tt hen ?_
                    refine h.mono fun j8 a1 h => ?_
                    obtain ⟨i0, he, h⟩ := h
                    refine ⟨i0, he, ?_⟩
                    obtain ⟨f5, h⟩ := h
                    refine ⟨f5, ?_⟩
                    refine h.mono fun ji bs h => ?_
                    obtain ⟨cr, he, h⟩ := h
                    refine ⟨cr, he, ?_⟩
                    refine bif_of (fun cq => ?_) (fun cq => ?_)
                    · have h := h.1 (bne_t cq)
                      exact h
                    · have h := h.2 (bne_f cq)
                      obtain ⟨bd, au, h⟩ := h
                      try rw [w64 bd au]
                      obtain ⟨gf, hk, h⟩ := h
                      exact ⟨gf, hk, h⟩
                  · have h := h.2 (Int.not_lt.1 (of_decide_eq_false fw))
                    refine thenW_in fun bt gt => ?_
                    have a7 := (Ext.refl no ay).x_drew gt
                    obtain ⟨i8, de, h⟩ := h
                    refine ⟨i8, (a7).cell de id, ?_⟩
                    obtain ⟨d1, bg, h⟩ := h
                    refine ⟨d1, (a7).cell bg id, ?_⟩
                    obtain ⟨cx, bj, h⟩ := h
                    refine ⟨cx, (a7).cell bj id, ?_⟩
                    obtain ⟨ce, b8, h⟩ := h
                    refine ⟨ce, (a7).cell b8 id, ?_⟩
                    obtain ⟨kg, e7, h⟩ := h
                    refine elim_some e7 ?_
                    have h := h bt a7
                    obtain ⟨hcs, h⟩ := h
                    refine ⟨hcs, thenW_in fun jn ib => ?_⟩
                    replace h := thenW_out h ib
                    obtain ⟨dj, dp, h⟩ := h
                    refine ⟨dj, dp, ?_⟩
                    obtain ⟨lw, da, h⟩ := h
                    refine elim_some da ?_
                    obtain ⟨hcs, h⟩ := h
                    refine ⟨hcs, thenW_in fun je fb => ?_⟩
                    replace h := thenW_out h fb
                    exact h
                · have h := h1'
                  refine thenW_in fun c0 i1 => ?_
                  have h := h c0 ah.heap.size ((Ext.refl no ah).x_alloc i1) (Blk.of_new i1) ((Ext.refl no ah)).size (size_lt_alloc i1)
                  obtain ⟨fy, gm, c6, co, bf, h⟩ := h
                  refine ⟨fy, gm, c6, co, bf, ?_⟩
                  have h := h c0 [] (Ext.refl no c0) Priv.nil
                  refine h.mono fun l8 eg h => ?_
                  obtain ⟨bi, b3, he, hkL, h⟩ := h
                  refine ⟨bi, b3, he, ?_⟩
                  have h := h eg (Ext.refl (fun b => b ∈ ([] : List Nat)) eg)
                  obtain ⟨hcs, h⟩ := h
                  refine ⟨hcs, thenW_in fun l5 m2 => ?_⟩
                  replace h := thenW_out h m2
                  obtain ⟨hcs, h⟩ := h
                  refine ⟨hcs, thenW_in fun ae kr => ?_⟩
                  replace h := thenW_out h kr
                  obtain ⟨lc, bu, h⟩ := h
                  refine ⟨lc, bu, ?_⟩
                  obtain ⟨mh, g8, h⟩ := h
                  refine elim_some g8 ?_
                  obtain ⟨ld, ix, h⟩ := h
                  refine ⟨ld, ix, ?_⟩
                  refine thenW_in fun ay gn => ?_
                  have h := h ay ae.heap.size ((Ext.refl no ae).x_alloc gn) (Blk.of_new gn) ((Ext.refl no ae)).size (size_lt_alloc gn)
                  obtain ⟨I1, m0, h0, h⟩ := h
                  refine ⟨I1, m0, h0, fun kf cb kn hI => ?_⟩
                  have h := h kf cb kn hI
                  refine bif_of (fun cj => ?_) (fun cj => ?_)
                  · have h := h.1 (of_decide_eq_true cj)
                    obtain ⟨bb, b2, h⟩ := h
                    refine ⟨bb, b2, ?_⟩
                    obtain ⟨dk, eb, ej, am, h⟩ := h
                    refine ⟨dk, eb, ej, am, ?_⟩
                    refine thenW_in fun a1 im => ?_
                    have bp := (Ext.refl no cb).x_drew im
                    obtain ⟨i5, f7, h⟩ := h
                    refine ⟨i5, (bp).cell f7 id, ?_⟩
                    have h := h a1 bp
                    obtain ⟨hen, h⟩ := h
                    refine bif_tt hen ?_
                    refine h.mono fun jg j9 h => ?_
                    obtain ⟨ia, he, h⟩ := h
                    refine ⟨ia, he, ?_⟩
                    obtain ⟨dw, h⟩ := h
                    refine ⟨dw, ?_⟩
                    refine h.mono fun ez al h => ?_
                    obtain ⟨bz, he, h⟩ := h
                    refine ⟨bz, he, ?_⟩
                    refine bif_of (fun cg => ?_) (fun cg => ?_)
                    · have h := h.1 (bne_t cg)
                      exact h
                    · have h := h.2 (bne_f cg)
                      obtain ⟨bd, au, h⟩ := h
                      try rw [w64 bd au]
                      obtain ⟨fp, hk, h⟩ := h
                      exact ⟨fp, hk, h⟩
                  · have h := h.2 (Int.not_lt.1 (of_decide_eq_false cj))
                    refine thenW_in fun br c2 => ?_
                    have a9 := (Ext.refl no cb).x_drew c2
                    obtain ⟨g9, f0, h⟩ := h
                    refine ⟨g9, (a9).cell f0 id, ?_⟩
                    obtain ⟨ch, ao, h⟩ := h
                    refine ⟨ch, (a9).cell ao id, ?_⟩
                    obtain ⟨b0, a6, h⟩ := h
                    refine ⟨b0, (a9).cell a6 id, ?_⟩
                    obtain ⟨ax, a2, h⟩ := h
                    refine ⟨ax, (a9).cell a2 id, ?_⟩
                    obtain ⟨kp, e1, h⟩ := h
                    refine elim_some e1 ?_
                    have h := h br a9
                    obtain ⟨hcs, h⟩ := h
                    refine ⟨hcs, thenW_in fun jh fg => ?_⟩
                    replace h := thenW_out h fg
                    obtain ⟨f9, e8, h⟩ := h
                    refine ⟨f9, e8, ?_⟩
                    obtain ⟨gs, aq, h⟩ := h
                    refine elim_some aq ?_
                    obtain ⟨hcs, h⟩ := h
                    refine ⟨hcs, thenW_in fun em d4 => ?_⟩
                    replace h := thenW_out h d4
                    exact h
            · have h := h1'
              refine thenW_in fun ad fo => ?_
              have h := h ad i6.heap.size (aj.x_alloc fo) (Blk.of_new fo) (aj).size (size_lt_alloc fo)
              obtain ⟨i9, il, gq, ea, db, dc, dd, h⟩ := h
              refine ⟨i9, il, gq, ea, db, dc, dd, ?_⟩
              obtain ⟨h0', h1'⟩ := h
              refine ⟨?_, ?_⟩
              · have h := h0'
                have h := h ad [] (Ext.refl no ad) Priv.nil
                refine h.mono fun ky aa h => ?_
                obtain ⟨cp, he, hkL, h⟩ := h
                refine ⟨cp, he, ?_⟩
                obtain ⟨aw, ak, b4, cf, fr, h⟩ := h
                refine ⟨aw, ak, b4, cf, fr, ?_⟩
                obtain ⟨h0', h1'⟩ := h
                refine ⟨?_, ?_⟩
                · have h := h0'
                  have h := h aa [] (Ext.refl (fun b => b ∈ ([] : List Nat)) aa) PrivJ.nil
                  refine h.mono fun k5 b6 h => ?_
                  obtain ⟨b1, ar, he, hkL, h⟩ := h
                  refine ⟨b1, ar, he, ?_⟩
                  have h := h b6 (Ext.refl (fun b => b ∈ ([] : List Nat)) b6)
                  refine thenW_in fun f6 dh => ?_
                  have h := h f6 b6.heap.size ((Ext.refl no b6).x_alloc dh) (Blk.of_new dh) ((Ext.refl no b6)).size (size_lt_alloc dh)
                  obtain ⟨hcs, h⟩ := h
                  refine ⟨hcs, thenW_in fun f1 e6 => ?_⟩
                  replace h := thenW_out h e6
                  obtain ⟨hcs, h⟩ := h
                  refine ⟨hcs, thenW_in fun cy ll => ?_⟩
                  replace h := thenW_out h ll
                  obtain ⟨lz, gw, h⟩ := h
                  refine ⟨lz, gw, ?_⟩
                  obtain ⟨ml, ge, h⟩ := h
                  refine elim_some ge ?_
                  obtain ⟨l3, bu, h⟩ := h
                  refine ⟨l3, bu, ?_⟩
                  refine thenW_in fun eo dt => ?_
                  have h := h eo cy.heap.size ((Ext.refl no cy).x_alloc dt) (Blk.of_new dt) ((Ext.refl no cy)).size (size_lt_alloc dt)
                  obtain ⟨I1, lt, h0, h⟩ := h
                  refine ⟨I1, lt, h0, fun ly ap lu hI => ?_⟩
                  have h := h ly ap lu hI
                  refine bif_of (fun fm => ?_) (fun fm => ?_)
                  · have h := h.1 (of_decide_eq_true fm)
                    obtain ⟨bb, b2, h⟩ := h
                    refine ⟨bb, b2, ?_⟩
                    obtain ⟨fk, fs, g3, ie, h⟩ := h
                    refine ⟨fk, fs, g3, ie, ?_⟩
                    refine thenW_in fun dy gc => ?_
                    have bo := (Ext.refl no ap).x_drew gc
                    obtain ⟨gd, am, h⟩ := h
                    refine ⟨gd, (bo).cell am id, ?_⟩
                    have h := h dy bo
                    obtain ⟨hen, h⟩ := h
                    refine bif_tt hen ?_
                    refine h.mono fun jm ac h => ?_
                    obtain ⟨fa, he, h⟩ := h
                    refine ⟨fa, he, ?_⟩
                    obtain ⟨f8, h⟩ := h
                    refine ⟨f8, ?_⟩
                    refine h.mono fun jc j5 h => ?_
                    obtain ⟨cz, he, h⟩ := h
                    refine ⟨cz, he, ?_⟩
                    refine bif_of (fun d2 => ?_) (fun d2 => ?_)
                    · have h := h.1 (bne_t d2)
                      exact h
                    · have h := h.2 (bne_f d2)
                      obtain ⟨bd, au, h⟩ := h
                      try rw [w64 bd au]
                      obtain ⟨ij, hk, h⟩ := h
                      exact ⟨ij, hk, h⟩
                  · have h := h.2 (Int.not_lt.1 (of_decide_eq_false fm))
                    refine thenW_in fun al g7 => ?_
                    have a3 := (Ext.refl no ap).x_drew g7
                    obtain ⟨d1, bg, h⟩ := h
                    refine ⟨d1, (a3).cell bg id, ?_⟩
                    obtain ⟨cx, bj, h⟩ := h
                    refine ⟨cx, (a3).cell bj id, ?_⟩
                    obtain ⟨ce, b8, h⟩ := h
                    refine ⟨ce, (a3).cell b8 id, ?_⟩
                    obtain ⟨fv, dx, h⟩ := h
                    refine ⟨fv, (a3).cell dx id, ?_⟩
                    obtain ⟨kq, et, h⟩ := h
                    refine elim_some et ?_
                    have h := h al a3
                    obtain ⟨hcs, h⟩ := h
                    refine ⟨hcs, thenW_in fun jo ik => ?_⟩
                    replace h := thenW_out h ik
                    obtain ⟨dv, dq, h⟩ := h
                    refine ⟨dv, dq, ?_⟩
                    obtain ⟨ls, ek, h⟩ := h
                    refine elim_some ek ?_
                    obtain ⟨hcs, h⟩ := h
                    refine ⟨hcs, thenW_in fun j4 gg => ?_⟩
                    replace h := thenW_out h gg
                    exact h
                · have h := h1'
                  have h := h aa (Ext.refl (fun b => b ∈ ([] : List Nat)) aa)
                  refine thenW_in fun ci fq => ?_
                  have h := h ci aa.heap.size ((Ext.refl no aa).x_alloc fq) (Blk.of_new fq) ((Ext.refl no aa)).size (size_lt_alloc fq)
                  obtain ⟨c6, co, bf, c3, cn, h⟩ := h
                  refine ⟨c6, co, bf, c3, cn, ?_⟩
                  have h := h ci [] (Ext.refl no ci) Priv.nil
                  refine h.mono fun m5 ae h => ?_
                  obtain ⟨an, bh, he, hkL, h⟩ := h
                  refine ⟨an, bh, he, ?_⟩
                  have h := h ae (Ext.refl (fun b => b ∈ ([] : List Nat)) ae)
                  obtain ⟨hcs, h⟩ := h
                  refine ⟨hcs, thenW_in fun af ep => ?_⟩
                  replace h := thenW_out h ep
                  obtain ⟨hcs, h⟩ := h
                  refine ⟨hcs, thenW_in fun ag m1 => ?_⟩
                  replace h := thenW_out h m1
                  obtain ⟨jv, cl, h⟩ := h
                  refine ⟨jv, cl, ?_⟩
                  obtain ⟨m9, g2, h⟩ := h
                  refine elim_some g2 ?_
                  obtain ⟨kw, cd, h⟩ := h
                  refine ⟨kw, cd, ?_⟩
                  refine thenW_in fun ap ft => ?_
                  have h := h ap ag.heap.size ((Ext.refl no ag).x_alloc ft) (Blk.of_new ft) ((Ext.refl no ag)).size (size_lt_alloc ft)
                  obtain ⟨I1, k7, h0, h⟩ := h
                  refine ⟨I1, k7, h0, fun gk bc jz hI => ?_⟩
                  have h := h gk bc jz hI
                  refine bif_of (fun ck => ?_) (fun ck => ?_)
                  · have h := h.1 (of_decide_eq_true ck)
                    obtain ⟨bb, b2, h⟩ := h
                    refine ⟨bb, b2, ?_⟩
                    obtain ⟨ey, ex, ew, e2, h⟩ := h
                    refine ⟨ey, ex, ew, e2, ?_⟩
                    refine thenW_in fun ac c4 => ?_
                    have a0 := (Ext.refl no bc).x_drew c4
                    obtain ⟨ct, ba, h⟩ := h
                    refine ⟨ct, (a0).cell ba id, ?_⟩
                    have h := h ac a0
                    obtain ⟨hen, h⟩ := h
                    refine bif_tt hen ?_
                    refine h.mono fun jd bt h => ?_
                    obtain ⟨gu, he, h⟩ := h
                    refine ⟨gu, he, ?_⟩
                    obtain ⟨df, h⟩ := h
                    refine ⟨df, ?_⟩
                    refine h.mono fun j6 jl h => ?_
                    obtain ⟨cw, he, h⟩ := h
                    refine ⟨cw, he, ?_⟩
                    refine bif_of (fun cs => ?_) (fun cs => ?_)
                    · have h := h.1 (bne_t cs)
                      exact h
                    · have h := h.2 (bne_f cs)
                      obtain ⟨bd, au, h⟩ := h
                      try rw [w64 bd au]
                      obtain ⟨fu, hk, h⟩ := h
                      exact ⟨fu, hk, h⟩
                  · have h := h.2 (Int.not_lt.1 (of_decide_eq_false ck))
                    refine thenW_in fun f3 iz => ?_
                    have a4 := (Ext.refl no bc).x_drew iz
                    obtain ⟨ch, ao, h⟩ := h
                    refine ⟨ch, (a4).cell ao id, ?_⟩
                    obtain ⟨b0, a6, h⟩ := h
                    refine ⟨b0, (a4).cell a6 id, ?_⟩
                    obtain ⟨ax, a2, h⟩ := h
                    refine ⟨ax, (a4).cell a2 id, ?_⟩
                    obtain ⟨cv, b5, h⟩ := h
                    refine ⟨cv, (a4).cell b5 id, ?_⟩
                    obtain ⟨l4, e9, h⟩ := h
                    refine elim_some e9 ?_
                    have h := h f3 a4
                    obtain ⟨hcs, h⟩ := h
                    refine ⟨hcs, thenW_in fun ja gx => ?_⟩
                    replace h := thenW_out h gx
                    obtain ⟨er, eu, h⟩ := h
                    refine ⟨er, eu, ?_⟩
                    obtain ⟨l2, el, h⟩ := h
                    refine elim_some el ?_
                    obtain ⟨hcs, h⟩ := h
                    refine ⟨hcs, thenW_in fun jp g0 => ?_⟩
                    replace h := thenW_out h g0
                    exact h
              · have h := h1'
                refine thenW_in fun d6 fi => ?_
                have h := h d6 ad.heap.size ((Ext.refl no ad).x_alloc fi) (Blk.of_new fi) ((Ext.refl no ad)).size (size_lt_alloc fi)
                obtain ⟨iv, d3, c1, aw, ak, b4, cf, h⟩ := h
                refine ⟨iv, d3, c1, aw, ak, b4, cf, ?_⟩
                have h := h d6 [] (Ext.refl no d6) Priv.nil
                refine h.mono fun fz a5 h => ?_
                obtain ⟨bw, he, hkL, h⟩ := h
                refine ⟨bw, he, ?_⟩
                obtain ⟨bf, c3, cn, g6, gi, h⟩ := h
                refine ⟨bf, c3, cn, g6, gi, ?_⟩
                have h := h a5 [] (Ext.refl (fun b => b ∈ ([] : List Nat)) a5) PrivJ.nil
                refine h.mono fun jy ag h => ?_
                obtain ⟨az, av, he, hkL, h⟩ := h
                refine ⟨az, av, he, ?_⟩
                have h := h ag (Ext.refl (fun b => b ∈ ([] : List Nat)) ag)
                obtain ⟨hcs, h⟩ := h
                refine ⟨hcs, thenW_in fun eo dt => ?_⟩
                replace h := thenW_out h dt
                obtain ⟨hcs, h⟩ := h
                refine ⟨hcs, thenW_in fun d5 ln => ?_⟩
                replace h := thenW_out h ln
                obtain ⟨jt, fj, h⟩ := h
                refine ⟨jt, fj, ?_⟩
                obtain ⟨mq, fx, h⟩ := h
                refine elim_some fx ?_
                obtain ⟨lq, cu, h⟩ := h
                refine ⟨lq, cu, ?_⟩
                refine thenW_in fun bm es => ?_
                have h := h bm d5.heap.size ((Ext.refl no d5).x_alloc es) (Blk.of_new es) ((Ext.refl no d5)).size (size_lt_alloc es)
                obtain ⟨I1, fd, h0, h⟩ := h
                refine ⟨I1, fd, h0, fun ic a1 iw hI => ?_⟩
                have h := h ic a1 iw hI
                refine bif_of (fun cc => ?_) (fun cc => ?_)
                · have h := h.1 (of_decide_eq_true cc)
                  obtain ⟨bb, b2, h⟩ := h
                  refine ⟨bb, b2, ?_⟩
                  obtain ⟨dg, e4, d7, eh, h⟩ := h
                  refine ⟨dg, e4, d7, eh, ?_⟩
                  refine thenW_in fun bs i7 => ?_
                  have bn := (Ext.refl no a1).x_drew i7
                  obtain ⟨c5, b9, h⟩ := h
                  refine ⟨c5, (bn).cell b9 id, ?_⟩
                  have h := h bs bn
                  obtain ⟨hen, h⟩ := h
                  refine bif_tt hen ?_
                  refine h.mono fun ez al h => ?_
                  obtain ⟨io, he, h⟩ := h
                  refine ⟨io, he, ?_⟩
                  obtain ⟨ef, h⟩ := h
                  refine ⟨ef, ?_⟩
                  refine h.mono fun j7 jj h => ?_
                  obtain ⟨d0, he, h⟩ := h
                  refine ⟨d0, he, ?_⟩
                  refine bif_of (fun c8 => ?_) (fun c8 => ?_)
                  · have h := h.1 (bne_t c8)
                    exact h
                  · have h := h.2 (bne_f c8)
                    obtain ⟨bd, au, h⟩ := h
                    try rw [w64 bd au]
                    obtain ⟨gr, hk, h⟩ := h
                    exact ⟨gr, hk, h⟩
                · have h := h.2 (Int.not_lt.1 (of_decide_eq_false cc))
                  refine thenW_in fun bq ca => ?_
                  have a8 := (Ext.refl no a1).x_drew ca
                  obtain ⟨b0, a6, h⟩ := h
                  refine ⟨b0, (a8).cell a6 id, ?_⟩
                  obtain ⟨ax, a2, h⟩ := h
                  refine ⟨ax, (a8).cell a2 id, ?_⟩
                  obtain ⟨cv, b5, h⟩ := h
                  refine ⟨cv, (a8).cell b5 id, ?_⟩
                  obtain ⟨gb, f2, h⟩ := h
                  refine ⟨gb, (a8).cell f2 id, ?_⟩
                  obtain ⟨gs, aq, h⟩ := h
                  refine elim_some aq ?_
                  have h := h bq a8
                  obtain ⟨hcs, h⟩ := h
                  refine ⟨hcs, thenW_in fun em d4 => ?_⟩
                  replace h := thenW_out h d4
                  obtain ⟨e0, dn, h⟩ := h
                  refine ⟨e0, dn, ?_⟩
                  obtain ⟨lv, ds, h⟩ := h
                  refine elim_some ds ?_
                  obtain ⟨hcs, h⟩ := h
                  refine ⟨hcs, thenW_in fun jk j1 => ?_⟩
                  replace h := thenW_out h j1
                  exact h
            · have h := h2'
              refine thenW_in fun ad fo => ?_
              have h := h ad i6.heap.size (aj.x_alloc fo) (Blk.of_new fo) (aj).size (size_lt_alloc fo)
              obtain ⟨i9, il, gq, ea, db, dc, dd, h⟩ := h
              refine ⟨i9, il, gq, ea, db, dc, dd, ?_⟩
              obtain ⟨h0', h1'⟩ := h
              refine ⟨?_, ?_⟩
              · have h := h0'
                have h := h ad [] (Ext.refl no ad) Priv.nil
                refine h.mono fun ky aa h => ?_
                obtain ⟨cp, he, hkL, h⟩ := h
                refine ⟨cp, he, ?_⟩
                obtain ⟨aw, ak, b4, cf, fr, h⟩ := h
                refine ⟨aw, ak, b4, cf, fr, ?_⟩
                obtain ⟨h0', h1'⟩ := h
                refine ⟨?_, ?_⟩
                · have h := h0'
                  have h := h aa [] (Ext.refl (fun b => b ∈ ([] : List Nat)) aa) PrivJ.nil
                  refine h.mono fun k5 b6 h => ?_
                  obtain ⟨b1, ar, he, hkL, h⟩ := h
                  refine ⟨b1, ar, he, ?_⟩
                  have h := h b6 (Ext.refl (fun b => b ∈ ([] : List Nat)) b6)
                  refine thenW_in fun f6 dh => ?_
                  have h := h f6 b6.heap.size ((Ext.refl no b6).x_alloc dh) (Blk.of_new dh) ((Ext.refl no b6)).size (size_lt_alloc dh)
                  obtain ⟨hcs, h⟩ := h
                  refine ⟨hcs, thenW_in fun f1 e6 => ?_⟩
                  replace h := thenW_out h e6
                  obtain ⟨hcs, h⟩ := h
                  refine ⟨hcs, thenW_in fun cy ll => ?_⟩
                  replace h := thenW_out h ll
                  obtain ⟨lz, gw, h⟩ := h
                  refine ⟨lz, gw, ?_⟩
                  obtain ⟨ml, ge, h⟩ := h
                  refine elim_some ge ?_
                  obtain ⟨l3, bu, h⟩ := h
                  refine ⟨l3, bu, ?_⟩
                  refine thenW_in fun eo dt => ?_
                  have h := h eo cy.heap.size ((Ext.refl no cy).x_alloc dt) (Blk.of_new dt) ((Ext.refl no cy)).size (size_lt_alloc dt)
                  obtain ⟨I1, lt, h0, h⟩ := h
                  refine ⟨I1, lt, h0, fun ly ap lu hI => ?_⟩
                  have h := h ly ap lu hI
                  refine bif_of (fun fm => ?_) (fun fm => ?_)
                  · have h := h.1 (of_decide_eq_true fm)
                    obtain ⟨bb, b2, h⟩ := h
                    refine ⟨bb, b2, ?_⟩
                    obtain ⟨fk, fs, g3, ie, h⟩ := h
                    refine ⟨fk, fs, g3, ie, ?_⟩
                    refine thenW_in fun dy gc => ?_
                    have bo := (Ext.refl no ap).x_drew gc
                    obtain ⟨gd, am, h⟩ := h
                    refine ⟨gd, (bo).cell am id, ?_⟩
                    have h := h dy bo
                    obtain ⟨hen, h⟩ := h
                    refine bif_tt hen ?_
                    refine h.mono fun jm ac h => ?_
                    obtain ⟨fa, he, h⟩ := h
                    refine ⟨fa, he, ?_⟩
                    obtain ⟨f8, h⟩ := h
                    refine ⟨f8, ?_⟩
                    refine h.mono fun jc j5 h => ?_
                    obtain ⟨cz, he, h⟩ := h
                    refine ⟨cz, he, ?_⟩
                    refine bif_of (fun d2 => ?_) (fun d2 => ?_)
                    · have h := h.1 (bne_t d2)
                      exact h
                    · have h := h.2 (bne_f d2)
                      obtain ⟨bd, au, h⟩ := h
                      try rw [w64 bd au]
                      obtain ⟨ij, hk, h⟩ := h
                      exact ⟨ij, hk, h⟩
                  · have h := h.2 (Int.not_lt.1 (of_decide_eq_false fm))
                    refine thenW_in fun al g7 => ?_
                    have a3 := (Ext.refl no ap).x_drew g7
                    obtain ⟨d1, bg, h⟩ := h
                    refine ⟨d1, (a3).cell bg id, ?_⟩
                    obtain ⟨cx, bj, h⟩ := h
                    refine ⟨cx, (a3).cell bj id, ?_⟩
                    obtain ⟨ce, b8, h⟩ := h
                    refine ⟨ce, (a3).cell b8 id, ?_⟩
                    obtain ⟨fv, dx, h⟩ := h
                    refine ⟨fv, (a3).cell dx id, ?_⟩
                    obtain ⟨kq, et, h⟩ := h
                    refine elim_some et ?_
                    have h := h al a3
                    obtain ⟨hcs, h⟩ := h
                    refine ⟨hcs, thenW_in fun jo ik => ?_⟩
                    replace h := thenW_out h ik
                    obtain ⟨dv, dq, h⟩ := h
                    refine ⟨dv, dq, ?_⟩
                    obtain ⟨ls, ek, h⟩ := h
                    refine elim_some ek ?_
                    obtain ⟨hcs, h⟩ := h
                    refine ⟨hcs, thenW_in fun j4 gg => ?_⟩
                    replace h := thenW_out h gg
                    exact h
                · have h := h1'
                  have h := h aa (Ext.refl (fun b => b ∈ ([] : List Nat)) aa)
                  refine thenW_in fun ci fq => ?_
                  have h := h ci aa.heap.size ((Ext.refl no aa).x_alloc fq) (Blk.of_new fq) ((Ext.refl no aa)).size (size_lt_alloc fq)
                  obtain ⟨c6, co, bf, c3, cn, h⟩ := h
                  refine ⟨c6, co, bf, c3, cn, ?_⟩
                  have h := h ci [] (Ext.refl no ci) Priv.nil
                  refine h.mono fun m5 ae h => ?_
                  obtain ⟨an, bh, he, hkL, h⟩ := h
                  refine ⟨an, bh, he, ?_⟩
                  have h := h ae (Ext.refl (fun b => b ∈ ([] : List Nat)) ae)
                  obtain ⟨hcs, h⟩ := h
                  refine ⟨hcs, thenW_in fun af ep => ?_⟩
                  replace h := thenW_out h ep
                  obtain ⟨hcs, h⟩ := h
                  refine ⟨hcs, thenW_in fun ag m1 => ?_⟩
                  replace h := thenW_out h m1
                  obtain ⟨jv, cl, h⟩ := h
                  refine ⟨jv, cl, ?_⟩
                  obtain ⟨m9, g2, h⟩ := h
                  refine elim_some g2 ?_
                  obtain ⟨kw, cd, h⟩ := h
                  refine ⟨kw, cd, ?_⟩
                  refine thenW_in fun ap ft => ?_
                  have h := h ap ag.heap.size ((Ext.refl no ag).x_alloc ft) (Blk.of_new ft) ((Ext.refl no ag)).size (size_lt_alloc ft)
                  obtain ⟨I1, k7, h0, h⟩ := h
                  refine ⟨I1, k7, h0, fun gk bc jz hI => ?_⟩
                  have h := h gk bc jz hI
                  refine bif_of (fun ck => ?_) (fun ck => ?_)
                  · have h := h.1 (of_decide_eq_true ck)
                    obtain ⟨bb, b2, h⟩ := h
                    refine ⟨bb, b2, ?_⟩
                    obtain ⟨ey, ex, ew, e2, h⟩ := h
                    refine ⟨ey, ex, ew, e2, ?_⟩
                    refine thenW_in fun ac c4 => ?_
                    have a0 := (Ext.refl no bc).x_drew c4
                    obtain ⟨ct, ba, h⟩ := h
                    refine ⟨ct, (a0).cell ba id, ?_⟩
                    have h := h ac a0
                    obtain ⟨hen, h⟩ := h
                    refine bif_tt hen ?_
                    refine h.mono fun jd bt h => ?_
                    obtain ⟨gu, he, h⟩ := h
                    refine ⟨gu, he, ?_⟩
                    obtain ⟨df, h⟩ := h
                    refine ⟨df, ?_⟩
                    refine h.mono fun j6 jl h => ?_
                    obtain ⟨cw, he, h⟩ := h
                    refine ⟨cw, he, ?_⟩
                    refine bif_of (fun cs => ?_) (fun cs => ?_)
                    · have h := h.1 (bne_t cs)
                      exact h
                    · have h := h.2 (bne_f cs)
                      obtain ⟨bd, au, h⟩ := h
                      try rw [w64 bd au]
                      obtain ⟨fu, hk, h⟩ := h
                      exact ⟨fu, hk, h⟩
                  · have h := h.2 (Int.not_lt.1 (of_decide_eq_false ck))
                    refine thenW_in fun f3 iz => ?_
                    have a4 := (Ext.refl no bc).x_drew iz
                    obtain ⟨ch, ao, h⟩ := h
                    refine ⟨ch, (a4).cell ao id, ?_⟩
                    obtain ⟨b0, a6, h⟩ := h
                    refine ⟨b0, (a4).cell a6 id, ?_⟩
                    obtain ⟨ax, a2, h⟩ := h
                    refine ⟨ax, (a4).cell a2 id, ?_⟩
                    obtain ⟨cv, b5, h⟩ := h
                    refine ⟨cv, (a4).cell b5 id, ?_⟩
                    obtain ⟨l4, e9, h⟩ := h
                    refine elim_some e9 ?_
                    have h := h f3 a4
                    obtain ⟨hcs, h⟩ := h
                    refine ⟨hcs, thenW_in fun ja gx => ?_⟩
                    replace h := thenW_out h gx
                    obtain ⟨er, eu, h⟩ := h
                    refine ⟨er, eu, ?_⟩
                    obtain ⟨l2, el, h⟩ := h
                    refine elim_some el ?_
                    obtain ⟨hcs, h⟩ := h
                    refine ⟨hcs, thenW_in fun jp g0 => ?_⟩
                    replace h := thenW_out h g0
                    exact h
              · have h := h1'
                refine thenW_in fun d6 fi => ?_
                have h := h d6 ad.heap.size ((Ext.refl no ad).x_alloc fi) (Blk.of_new fi) ((Ext.refl no ad)).size (size_lt_alloc fi)
                obtain ⟨iv, d3, c1, aw, ak, b4, cf, h⟩ := h
                refine ⟨iv, d3, c1, aw, ak, b4, cf, ?_⟩
                have h := h d6 [] (Ext.refl no d6) Priv.nil
                refine h.mono fun fz a5 h => ?_
                obtain ⟨bw, he, hkL, h⟩ := h
                refine ⟨bw, he, ?_⟩
                obtain ⟨bf, c3, cn, g6, gi, h⟩ := h
                refine ⟨bf, c3, cn, g6, gi, ?_⟩
                have h := h a5 [] (Ext.refl (fun b => b ∈ ([] : List Nat)) a5) PrivJ.nil
                refine h.mono fun jy ag h => ?_
                obtain ⟨az, av, he, hkL, h⟩ := h
                refine ⟨az, av, he, ?_⟩
                have h := h ag (Ext.refl (fun b => b ∈ ([] : List Nat)) ag)
                obtain ⟨hcs, h⟩ := h
                refine ⟨hcs, thenW_in fun eo dt => ?_⟩
                replace h := thenW_out h dt
                obtain ⟨hcs, h⟩ := h
                refine ⟨hcs, thenW_in fun d5 ln => ?_⟩
                replace h := thenW_out h ln
                obtain ⟨jt, fj, h⟩ := h
                refine ⟨jt, fj, ?_⟩
                obtain ⟨mq, fx, h⟩ := h
                refine elim_some fx ?_
                obtain ⟨lq, cu, h⟩ := h
                refine ⟨lq, cu, ?_⟩
                refine thenW_in fun bm es => ?_
                have h := h bm d5.heap.size ((Ext.refl no d5).x_alloc es) (Blk.of_new es) ((Ext.refl no d5)).size (size_lt_alloc es)
                obtain ⟨I1, fd, h0, h⟩ := h
                refine ⟨I1, fd, h0, fun ic a1 iw hI => ?_⟩
                have h := h ic a1 iw hI
                refine bif_of (fun cc => ?_) (fun cc => ?_)
                · have h := h.1 (of_decide_eq_true cc)
                  obtain ⟨bb, b2, h⟩ := h
                  refine ⟨bb, b2, ?_⟩
                  obtain ⟨dg, e4, d7, eh, h⟩ := h
                  refine ⟨dg, e4, d7, eh, ?_⟩
                  refine thenW_in fun bs i7 => ?_
                  have bn := (Ext.refl no a1).x_drew i7
                  obtain ⟨c5, b9, h⟩ := h
                  refine ⟨c5, (bn).cell b9 id, ?_⟩
                  have h := h bs bn
                  obtain ⟨hen, h⟩ := h
                  refine bif_tt hen ?_
                  refine h.mono fun ez al h => ?_
                  obtain ⟨io, he, h⟩ := h
                  refine ⟨io, he, ?_⟩
                  obtain ⟨ef, h⟩ := h
                  refine ⟨ef, ?_⟩
                  refine h.mono fun j7 jj h => ?_
                  obtain ⟨d0, he, h⟩ := h
                  refine ⟨d0, he, ?_⟩
                  refine bif_of (fun c8 => ?_) (fun c8 => ?_)
                  · have h := h.1 (bne_t c8)
                    exact h
                  · have h := h.2 (bne_f c8)
                    obtain ⟨bd, au, h⟩ := h
                    try rw [w64 bd au]
                    obtain ⟨gr, hk, h⟩ := h
                    exact ⟨gr, hk, h⟩
                · have h := h.2 (Int.not_lt.1 (of_decide_eq_false cc))
                  refine thenW_in fun bq ca => ?_
                  have a8 := (Ext.refl no a1).x_drew ca
                  obtain ⟨b0, a6, h⟩ := h
                  refine ⟨b0, (a8).cell a6 id, ?_⟩
                  obtain ⟨ax, a2, h⟩ := h
                  refine ⟨ax, (a8).cell a2 id, ?_⟩
                  obtain ⟨cv, b5, h⟩ := h
                  refine ⟨cv, (a8).cell b5 id, ?_⟩
                  obtain ⟨gb, f2, h⟩ := h
                  refine ⟨gb, (a8).cell f2 id, ?_⟩
                  obtain ⟨gs, aq, h⟩ := h
                  refine elim_some aq ?_
                  have h := h bq a8
                  obtain ⟨hcs, h⟩ := h
                  refine ⟨hcs, thenW_in fun em d4 => ?_⟩
                  replace h := thenW_out h d4
                  obtain ⟨e0, dn, h⟩ := h
                  refine ⟨e0, dn, ?_⟩
                  obtain ⟨lv, ds, h⟩ := h
                  refine elim_some ds ?_
                  obtain ⟨hcs, h⟩ := h
                  refine ⟨hcs, thenW_in fun jk j1 => ?_⟩
                  replace h := thenW_out h j1
                  exact h

theorem snapshot_Store_Compact.go (s1 : Option Addr) (a0 : Option Addr) (a1 : Nat) (a2 : Nat) {R : Value → World → Prop} {w : World} (h : snapshot_Store_Compact.N s1 a0 a1 a2 R w) : Calls Try.prog 10 #[.pointer s1, .slice a0 a1 a2] w fun e w' => ∃ v, e = .returned v ∧ R v w' := snapshot_Store_Compact.ok s1 a0 a1 a2 (snapshot_Store_Compact.up s1 a0 a1 a2 h)
theorem snapshot_Store_Compact.run (s1 : Option Addr) (a0 : Option Addr) (a1 : Nat) (a2 : Nat) {V : Value} {Q : World → Prop} {w : World} (h : snapshot_Store_Compact.N s1 a0 a1 a2 (fun v w' => v = V ∧ Q w') w) : Calls Try.prog 10 #[.pointer s1, .slice a0 a1 a2] w (Ret V Q) := (snapshot_Store_Compact.go s1 a0 a1 a2 h).mono fun e w' ⟨v, he, hv, hq⟩ => ⟨by rw [he, hv], hq⟩

/-- (*snapshot.Store).Append -/
def snapshot_Store_Append.M (s1 : Option Addr) (al : Option Addr) (ac : Nat) (ak : Nat) (R : Value → World → Prop) (w : World) : Prop :=
 bif Option.isNone s1 then (
 R (.int .i64 23) w) else (
 s1.elim False fun a3 =>
 ∃ (a6 : Bool), w.cell? (a3.add 4) = some (.bool a6) ∧
 bif a6 then (
 Calls Try.prog 28 #[.int .i64 (ac : Int)] w fun an aj => ∃ (a2 : Int), an = .returned (.int .i64 a2) ∧
 bif decide (a2 > 0) then (
 R (.int .i64 19) aj) else (
 s1.elim False fun a8 =>
 ∃ (a9 : Option Addr), aj.cell? (a8.add 3) = some (.pointer a9) ∧
 Calls Try.prog 32 #[.pointer a9, .slice al ac ak] aj fun af ad => ∃ (a1 : Int), af = .returned (.int .i64 a1) ∧
 Calls Try.prog 38 #[.pointer s1, .int .i64 a1] ad fun ag aa => ∃ (a4 : Int), ag = .returned (.int .i64 a4) ∧
 R (.int .i64 a4) aa)) else (
 s1.elim False fun am =>
 ∃ (a5 : Option Addr), w.cell? (am.add 3) = some (.pointer a5) ∧
 Calls Try.prog 32 #[.pointer a5, .slice al ac ak] w fun ai ab => ∃ (a0 : Int), ai = .returned (.int .i64 a0) ∧
 Calls Try.prog 38 #[.pointer s1, .int .i64 a0] ab fun ae ah => ∃ (a7 : Int), ae = .returned (.int .i64 a7) ∧
 R (.int .i64 a7) ah))

theorem snapshot_Store_Append.eq (s1 : Option Addr) (b2a : Option Addr) (b2n : Nat) (b2c : Nat) (R : Value → World → Prop) (w : World) : mfunc Try.prog [] 11 [.pointer s1, .slice b2a b2n b2c] R w = snapshot_Store_Append.M s1 b2a b2n b2c R w := by kernel_rfl
theorem snapshot_Store_Append.ok (s1 : Option Addr) (a2 : Option Addr) (a0 : Nat) (a1 : Nat) {R : Value → World → Prop} {w : World} (h : snapshot_Store_Append.M s1 a2 a0 a1 R w) : Calls Try.prog 11 #[.pointer s1, .slice a2 a0 a1] w fun e w' => ∃ v, e = .returned v ∧ R v w' :=
  mfunc_ok follows (H := []) (args := [.pointer s1, .slice a2 a0 a1]) (by rw [snapshot_Store_Append.eq]; exact h)

def snapshot_Store_Append.N (s1 : Option Addr) (aj : Option Addr) (a9 : Nat) (ai : Nat) (R : Value → World → Prop) (w : World) : Prop :=
 (s1 = none →
 R (.int .i64 23) w) ∧
 (s1 ≠ none →
 ∃ a4 : Addr, s1 = some a4 ∧
 ∃ (a2 : Bool), w.cell? (a4.add 4) = some (.bool a2) ∧
 (a2 = true →
 ((journal_Parts.F (a9 : Int)) > 0 →
 ∀ (a8 : World), Ext no w a8 →
 R (.int .i64 19) a8) ∧
 ((journal_Parts.F (a9 : Int)) ≤ 0 →
 ∃ (a6 : Option Addr), w.cell? (a4.add 3) = some (.pointer a6) ∧
 ∀ (a8 : World), Ext no w a8 →
 Calls Try.prog 32 #[.pointer a6, .slice aj a9 ai] a8 fun ab af => ∃ (a1 : Int), ab = .returned (.int .i64 a1) ∧
 Calls Try.prog 38 #[.pointer s1, .int .i64 a1] af fun ac aa => ∃ (a3 : Int), ac = .returned (.int .i64 a3) ∧
 R (.int .i64 a3) aa)) ∧
 (a2 = false →
 ∃ (a5 : Option Addr), w.cell? (a4.add 3) = some (.pointer a5) ∧
 Calls Try.prog 32 #[.pointer a5, .slice aj a9 ai] w fun ag ae => ∃ (a0 : Int), ag = .returned (.int .i64 a0) ∧
 Calls Try.prog 38 #[.pointer s1, .int .i64 a0] ae fun ah ad => ∃ (a7 : Int), ah = .returned (.int .i64 a7) ∧
 R (.int .i64 a7) ad))

theorem snapshot_Store_Append.up (s1 : Option Addr) (ae : Option Addr) (a8 : Nat) (ad : Nat) {R : Value → World → Prop} {w : World} (h : snapshot_Store_Append.N s1 ae a8 ad R w) : snapshot_Store_Append.M s1 ae a8 ad R w := by
  unfold snapshot_Store_Append.M
  unfold snapshot_Store_Append.N at h
  refine bif_of (fun c3 => ?_) (fun c3 => ?_)
  · have h := h.1 (isNone_t c3)
    exact h
  · have h := h.2 (isNone_f c3)
    obtain ⟨a4, aa, h⟩ := h
    refine elim_some aa ?_
    obtain ⟨a2, aj, h⟩ := h
    refine ⟨a2, aj, ?_⟩
    refine bif_of (fun c7 => ?_) (fun c7 => ?_)
    · have h := h.1 c7
      refine (journal_Parts.pure (a8 : Int)).mono fun ee ww8 ⟨he, hxx⟩ => ⟨(journal_Parts.F (a8 : Int)), he, ?_⟩
      have a9 := (Ext.refl no w).trans hxx
      refine bif_of (fun c9 => ?_) (fun c9 => ?_)
      · have h := h.1 (of_decide_eq_true c9)
        have h := h ww8 a9
        exact h
      · have h := h.2 (Int.not_lt.1 (of_decide_eq_false c9))
        refine elim_some aa ?_
        obtain ⟨a6, ac, h⟩ := h
        refine ⟨a6, (a9).cell ac id, ?_⟩
        have h := h ww8 a9
        refine h.mono fun ag al h => ?_
        obtain ⟨a1, he, h⟩ := h
        refine ⟨a1, he, ?_⟩
        refine h.mono fun ah af h => ?_
        obtain ⟨a3, he, h⟩ := h
        refine ⟨a3, he, ?_⟩
        exact h
    · have h := h.2 c7
      refine elim_some aa ?_
      obtain ⟨a5, ab, h⟩ := h
      refine ⟨a5, ab, ?_⟩
      refine h.mono fun am ak h => ?_
      obtain ⟨a0, he, h⟩ := h
      refine ⟨a0, he, ?_⟩
      refine h.mono fun an ai h => ?_
      obtain ⟨a7, he, h⟩ := h
      refine ⟨a7, he, ?_⟩
      exact h

theorem snapshot_Store_Append.go (s1 : Option Addr) (a2 : Option Addr) (a0 : Nat) (a1 : Nat) {R : Value → World → Prop} {w : World} (h : snapshot_Store_Append.N s1 a2 a0 a1 R w) : Calls Try.prog 11 #[.pointer s1, .slice a2 a0 a1] w fun e w' => ∃ v, e = .returned v ∧ R v w' := snapshot_Store_Append.ok s1 a2 a0 a1 (snapshot_Store_Append.up s1 a2 a0 a1 h)
theorem snapshot_Store_Append.run (s1 : Option Addr) (a2 : Option Addr) (a0 : Nat) (a1 : Nat) {V : Value} {Q : World → Prop} {w : World} (h : snapshot_Store_Append.N s1 a2 a0 a1 (fun v w' => v = V ∧ Q w') w) : Calls Try.prog 11 #[.pointer s1, .slice a2 a0 a1] w (Ret V Q) := (snapshot_Store_Append.go s1 a2 a0 a1 h).mono fun e w' ⟨v, he, hv, hq⟩ => ⟨by rw [he, hv], hq⟩

/-- (*snapshot.Store).Count -/
def snapshot_Store_Count.M (s1 : Option Addr) (R : Value → World → Prop) (w : World) : Prop :=
 bif Option.isNone s1 then (
 R (.int .i64 0) w) else (
 s1.elim False fun a2 =>
 ∃ (a1 : Option Addr), w.cell? (a2.add 3) = some (.pointer a1) ∧
 Calls Try.prog 43 #[.pointer a1] w fun a3 a4 => ∃ (a0 : Int), a3 = .returned (.int .i64 a0) ∧
 R (.int .i64 (IntKind.i64.wrap (a0 - 1))) a4)

theorem snapshot_Store_Count.eq (s1 : Option Addr) (R : Value → World → Prop) (w : World) : mfunc Try.prog [] 15 [.pointer s1] R w = snapshot_Store_Count.M s1 R w := by kernel_rfl
theorem snapshot_Store_Count.ok (s1 : Option Addr) {R : Value → World → Prop} {w : World} (h : snapshot_Store_Count.M s1 R w) : Calls Try.prog 15 #[.pointer s1] w fun e w' => ∃ v, e = .returned v ∧ R v w' :=
  mfunc_ok follows (H := []) (args := [.pointer s1]) (by rw [snapshot_Store_Count.eq]; exact h)

def snapshot_Store_Count.N (s1 : Option Addr) (R : Value → World → Prop) (w : World) : Prop :=
 (s1 = none →
 R (.int .i64 0) w) ∧
 (s1 ≠ none →
 ∃ a3 : Addr, s1 = some a3 ∧
 ∃ (a1 : Option Addr), w.cell? (a3.add 3) = some (.pointer a1) ∧
 Calls Try.prog 43 #[.pointer a1] w fun a4 a2 => ∃ (a0 : Int), a4 = .returned (.int .i64 a0) ∧
 (-9223372036854775808 : Int) ≤ (a0 - 1) ∧ (a0 - 1) < 9223372036854775808 ∧
 R (.int .i64 (a0 - 1)) a2)

theorem snapshot_Store_Count.up (s1 : Option Addr) {R : Value → World → Prop} {w : World} (h : snapshot_Store_Count.N s1 R w) : snapshot_Store_Count.M s1 R w := by
  unfold snapshot_Store_Count.M
  unfold snapshot_Store_Count.N at h
  refine bif_of (fun c2 => ?_) (fun c2 => ?_)
  · have h := h.1 (isNone_t c2)
    exact h
  · have h := h.2 (isNone_f c2)
    obtain ⟨a3, a4, h⟩ := h
    refine elim_some a4 ?_
    obtain ⟨a1, a5, h⟩ := h
    refine ⟨a1, a5, ?_⟩
    refine h.mono fun a8 a7 h => ?_
    obtain ⟨a0, he, h⟩ := h
    refine ⟨a0, he, ?_⟩
    obtain ⟨a2, a6, h⟩ := h
    try rw [w64 a2 a6]
    exact h

theorem snapshot_Store_Count.go (s1 : Option Addr) {R : Value → World → Prop} {w : World} (h : snapshot_Store_Count.N s1 R w) : Calls Try.prog 15 #[.pointer s1] w fun e w' => ∃ v, e = .returned v ∧ R v w' := snapshot_Store_Count.ok s1 (snapshot_Store_Count.up s1 h)
theorem snapshot_Store_Count.run (s1 : Option Addr) {V : Value} {Q : World → Prop} {w : World} (h : snapshot_Store_Count.N s1 (fun v w' => v = V ∧ Q w') w) : Calls Try.prog 15 #[.pointer s1] w (Ret V Q) := (snapshot_Store_Count.go s1 h).mono fun e w' ⟨v, he, hv, hq⟩ => ⟨by rw [he, hv], hq⟩

/-- (*snapshot.Store).Room -/
def snapshot_Store_Room.M (s1 : Option Addr) (R : Value → World → Prop) (w : World) : Prop :=
 bif Option.isNone s1 then (
 R (.int .i64 0) w) else (
 s1.elim False fun a2 =>
 ∃ (a1 : Option Addr), w.cell? (a2.add 3) = some (.pointer a1) ∧
 Calls Try.prog 44 #[.pointer a1] w fun a3 a4 => ∃ (a0 : Int), a3 = .returned (.int .i64 a0) ∧
 R (.int .i64 a0) a4)

theorem snapshot_Store_Room.eq (s1 : Option Addr) (R : Value → World → Prop) (w : World) : mfunc Try.prog [] 16 [.pointer s1] R w = snapshot_Store_Room.M s1 R w := by kernel_rfl
theorem snapshot_Store_Room.ok (s1 : Option Addr) {R : Value → World → Prop} {w : World} (h : snapshot_Store_Room.M s1 R w) : Calls Try.prog 16 #[.pointer s1] w fun e w' => ∃ v, e = .returned v ∧ R v w' :=
  mfunc_ok follows (H := []) (args := [.pointer s1]) (by rw [snapshot_Store_Room.eq]; exact h)

def snapshot_Store_Room.N (s1 : Option Addr) (R : Value → World → Prop) (w : World) : Prop :=
 (s1 = none →
 R (.int .i64 0) w) ∧
 (s1 ≠ none →
 ∃ a3 : Addr, s1 = some a3 ∧
 ∃ (a1 : Option Addr), w.cell? (a3.add 3) = some (.pointer a1) ∧
 Calls Try.prog 44 #[.pointer a1] w fun a4 a2 => ∃ (a0 : Int), a4 = .returned (.int .i64 a0) ∧
 R (.int .i64 a0) a2)

theorem snapshot_Store_Room.up (s1 : Option Addr) {R : Value → World → Prop} {w : World} (h : snapshot_Store_Room.N s1 R w) : snapshot_Store_Room.M s1 R w := by
  unfold snapshot_Store_Room.M
  unfold snapshot_Store_Room.N at h
  refine bif_of (fun c2 => ?_) (fun c2 => ?_)
  · have h := h.1 (isNone_t c2)
    exact h
  · have h := h.2 (isNone_f c2)
    obtain ⟨a3, a2, h⟩ := h
    refine elim_some a2 ?_
    obtain ⟨a1, a4, h⟩ := h
    refine ⟨a1, a4, ?_⟩
    refine h.mono fun a6 a5 h => ?_
    obtain ⟨a0, he, h⟩ := h
    refine ⟨a0, he, ?_⟩
    exact h

theorem snapshot_Store_Room.go (s1 : Option Addr) {R : Value → World → Prop} {w : World} (h : snapshot_Store_Room.N s1 R w) : Calls Try.prog 16 #[.pointer s1] w fun e w' => ∃ v, e = .returned v ∧ R v w' := snapshot_Store_Room.ok s1 (snapshot_Store_Room.up s1 h)
theorem snapshot_Store_Room.run (s1 : Option Addr) {V : Value} {Q : World → Prop} {w : World} (h : snapshot_Store_Room.N s1 (fun v w' => v = V ∧ Q w') w) : Calls Try.prog 16 #[.pointer s1] w (Ret V Q) := (snapshot_Store_Room.go s1 h).mono fun e w' ⟨v, he, hv, hq⟩ => ⟨by rw [he, hv], hq⟩

/-- (*snapshot.Store).Number -/
def snapshot_Store_Number.M (s1 : Option Addr) (R : Value → World → Prop) (w : World) : Prop :=
 bif Option.isNone s1 then (
 R (.int .u32 0) w) else (
 s1.elim False fun a2 =>
 ∃ (a0 : Int), w.cell? (a2.add 2) = some (.int .u32 a0) ∧
 R (.int .u32 a0) w)

theorem snapshot_Store_Number.eq (s1 : Option Addr) (R : Value → World → Prop) (w : World) : mfunc Try.prog [] 17 [.pointer s1] R w = snapshot_Store_Number.M s1 R w := by kernel_rfl
theorem snapshot_Store_Number.ok (s1 : Option Addr) {R : Value → World → Prop} {w : World} (h : snapshot_Store_Number.M s1 R w) : Calls Try.prog 17 #[.pointer s1] w fun e w' => ∃ v, e = .returned v ∧ R v w' :=
  mfunc_ok follows (H := []) (args := [.pointer s1]) (by rw [snapshot_Store_Number.eq]; exact h)

def snapshot_Store_Number.N (s1 : Option Addr) (R : Value → World → Prop) (w : World) : Prop :=
 (s1 = none →
 R (.int .u32 0) w) ∧
 (s1 ≠ none →
 ∃ a3 : Addr, s1 = some a3 ∧
 ∃ (a0 : Int), w.cell? (a3.add 2) = some (.int .u32 a0) ∧
 R (.int .u32 a0) w)

theorem snapshot_Store_Number.up (s1 : Option Addr) {R : Value → World → Prop} {w : World} (h : snapshot_Store_Number.N s1 R w) : snapshot_Store_Number.M s1 R w := by
  unfold snapshot_Store_Number.M
  unfold snapshot_Store_Number.N at h
  refine bif_of (fun c2 => ?_) (fun c2 => ?_)
  · have h := h.1 (isNone_t c2)
    exact h
  · have h := h.2 (isNone_f c2)
    obtain ⟨a3, a2, h⟩ := h
    refine elim_some a2 ?_
    obtain ⟨a0, a1, h⟩ := h
    refine ⟨a0, a1, ?_⟩
    exact h

theorem snapshot_Store_Number.go (s1 : Option Addr) {R : Value → World → Prop} {w : World} (h : snapshot_Store_Number.N s1 R w) : Calls Try.prog 17 #[.pointer s1] w fun e w' => ∃ v, e = .returned v ∧ R v w' := snapshot_Store_Number.ok s1 (snapshot_Store_Number.up s1 h)
theorem snapshot_Store_Number.run (s1 : Option Addr) {V : Value} {Q : World → Prop} {w : World} (h : snapshot_Store_Number.N s1 (fun v w' => v = V ∧ Q w') w) : Calls Try.prog 17 #[.pointer s1] w (Ret V Q) := (snapshot_Store_Number.go s1 h).mono fun e w' ⟨v, he, hv, hq⟩ => ⟨by rw [he, hv], hq⟩

/-- snapshot.Open -/
def snapshot_Open.M (d1 : Option Addr) (R : Value → World → Prop) (w : World) : Prop :=
 bif Option.isNone d1 then (
 R (.tuple #[.pointer none, .slice none 0 0, .slice none 0 0, .int .i64 23]) w) else (
 Calls Try.prog 22 #[.pointer d1] w fun b4 b1 => ∃ (a9 : Int), b4 = .returned (.int .i64 a9) ∧
 bif decide (a9 < 6) then (
 R (.tuple #[.pointer none, .slice none 0 0, .slice none 0 0, .int .i64 1]) b1) else (
 Calls Try.prog 23 #[.pointer d1] b1 fun b5 b2 => ∃ (ai : Bool), b5 = .returned (.bool ai) ∧
 bif ai then (
 R (.tuple #[.pointer none, .slice none 0 0, .slice none 0 0, .int .i64 19]) b2) else (
 Calls Try.prog 22 #[.pointer d1] b2 fun b6 a1 => ∃ (aa : Int), b6 = .returned (.int .i64 aa) ∧
 2 ≠ (0 : Int) ∧ thenW (a1.alloc (.cells #[.pointer d1, .int .i64 (IntKind.i64.wrap (Int.tdiv (IntKind.i64.wrap (aa - 2)) 2)), .int .u32 0, .pointer none, .bool false] 60)) fun ar =>
 Calls Try.prog 24 #[.func (.func 25) #[.pointer d1] #[], .int .i64 0] ar fun av ay => ∃ (a7 : Int), av = .returned (.int .u32 a7) ∧
 Calls Try.prog 24 #[.func (.func 25) #[.pointer d1] #[], .int .i64 1] ay fun ax am => ∃ (a4 : Int), ax = .returned (.int .u32 a4) ∧
 canStore am (((blk a1.heap.size).add 2).add 0) ∧
 thenW (am.setCell (((blk a1.heap.size).add 2).add 0) (.int .u32 (if (a4 : Int) > a7 then a4 else a7))) fun aj =>
 ∃ (ab : Int), aj.cell? ((blk a1.heap.size).add 2) = some (.int .u32 ab) ∧
 bif ab == 0 then (
 Calls Try.prog 10 #[.pointer (some (blk a1.heap.size)), .slice none 0 0] aj fun az an => ∃ (a3 : Int), az = .returned (.int .i64 a3) ∧
 bif a3 != 0 then (
 R (.tuple #[.pointer none, .slice none 0 0, .slice none 0 0, .int .i64 a3]) an) else (
 R (.tuple #[.pointer (some (blk a1.heap.size)), .slice none 0 0, .slice none 0 0, .int .i64 0]) an)) else (
 thenW (aj.drew) fun ah =>
 ∃ (ac : Int), ah.cell? ((blk a1.heap.size).add 2) = some (.int .u32 ac) ∧
 ∃ (ad : Int), ah.cell? ((blk a1.heap.size).add 1) = some (.int .i64 ad) ∧
 ∃ (a5 : Int), ah.cell? ((blk a1.heap.size).add 2) = some (.int .u32 a5) ∧
 Calls Try.prog 27 #[.pointer (some (blk a1.heap.size)), .int .u32 ac] ah fun aw ak => ∃ (af : Int), aw = .returned (.int .i64 af) ∧
 ak.cell? ((blk a1.heap.size).add 2) = some (.int .u32 a5) ∧
 ak.cell? ((blk a1.heap.size).add 1) = some (.int .i64 ad) ∧
 Calls Try.prog 26 #[.pointer d1, .int .i64 af, .int .i64 ad, .int .u32 a5] ak fun au ag => ∃ (ae : Option Addr) (a2 : Option Addr) (a0 : Nat) (a6 : Nat) (a8 : Int), au = .returned (.tuple #[.pointer ae, .slice a2 a0 a6, .int .i64 a8]) ∧
 bif a8 != 0 then (
 R (.tuple #[.pointer none, .slice none 0 0, .slice none 0 0, .int .i64 a8]) ag) else (
 bif (a0 : Int) == 0 then (
 R (.tuple #[.pointer none, .slice none 0 0, .slice none 0 0, .int .i64 4]) ag) else (
 canStore ag (((blk a1.heap.size).add 3).add 0) ∧
 thenW (ag.setCell (((blk a1.heap.size).add 3).add 0) (.pointer ae)) fun b0 =>
 thenW (b0.drew) fun aq =>
 a2.elim False fun b3 =>
 0 ≤ (0 : Int) ∧ (0 : Int) < (a0 : Int) ∧
 ∃ (al : Option Addr) (ao : Nat) (ap : Nat), aq.cell? (b3.add (Int.toNat 0 * 1)) = some (.slice al ao ap) ∧
 (0 : Int) ≤ (1 : Int) ∧ (1 : Int) ≤ (a0 : Int) ∧
 R (.tuple #[.pointer (some (blk a1.heap.size)), .slice al ao ap, .slice (if a6 = Int.toNat 1 then a2 else Option.map (fun z : Addr => z.add ((Int.toNat 1) * 1)) a2) (a0 - (Int.toNat 1)) (a6 - (Int.toNat 1)), .int .i64 0]) aq))))))

theorem snapshot_Open.eq (d1 : Option Addr) (R : Value → World → Prop) (w : World) : mfunc Try.prog [] 8 [.pointer d1] R w = snapshot_Open.M d1 R w := by kernel_rfl
theorem snapshot_Open.ok (d1 : Option Addr) {R : Value → World → Prop} {w : World} (h : snapshot_Open.M d1 R w) : Calls Try.prog 8 #[.pointer d1] w fun e w' => ∃ v, e = .returned v ∧ R v w' :=
  mfunc_ok follows (H := []) (args := [.pointer d1]) (by rw [snapshot_Open.eq]; exact h)

def snapshot_Open.N (d1 : Option Addr) (R : Value → World → Prop) (w : World) : Prop :=
 (d1 = none →
 R (.tuple #[.pointer none, .slice none 0 0, .slice none 0 0, .int .i64 23]) w) ∧
 (d1 ≠ none →
 Calls Try.prog 22 #[.pointer d1] w fun b7 b5 => ∃ (aa : Int), b7 = .returned (.int .i64 aa) ∧
 (aa < 6 →
 R (.tuple #[.pointer none, .slice none 0 0, .slice none 0 0, .int .i64 1]) b5) ∧
 ((6 : Int) ≤ aa →
 Calls Try.prog 23 #[.pointer d1] b5 fun b6 b4 => ∃ (ag : Bool), b6 = .returned (.bool ag) ∧
 (ag = true →
 R (.tuple #[.pointer none, .slice none 0 0, .slice none 0 0, .int .i64 19]) b4) ∧
 (ag = false →
 Calls Try.prog 22 #[.pointer d1] b4 fun ay aq => ∃ (a2 : Int), ay = .returned (.int .i64 a2) ∧
 (-9223372036854775808 : Int) ≤ (a2 - 2) ∧ (a2 - 2) < 9223372036854775808 ∧
 ∀ (aj : World) (ac : Nat), Ext no aq aj → Blk aj ac 60 [.pointer d1, .int .i64 (IntKind.i64.wrap (Int.tdiv (a2 - 2) 2)), .int .u32 0, .pointer none, .bool false] → aq.heap.size ≤ ac → ac < aj.heap.size →
 Calls Try.prog 24 #[.func (.func 25) #[.pointer d1] #[], .int .i64 0] aj fun b0 b1 => ∃ (a6 : Int), b0 = .returned (.int .u32 a6) ∧
 Calls Try.prog 24 #[.func (.func 25) #[.pointer d1] #[], .int .i64 1] b1 fun aw ar => ∃ (a5 : Int), aw = .returned (.int .u32 a5) ∧
 canStore ar (((blk ac).add 2).add 0) ∧
 thenW (ar.setCell (((blk ac).add 2).add 0) (.int .u32 (if (a5 : Int) > a6 then a5 else a6))) fun af =>
 ∃ (a7 : Int), af.cell? ((blk ac).add 2) = some (.int .u32 a7) ∧
 (a7 = 0 →
 Calls Try.prog 10 #[.pointer (some (blk ac)), .slice none 0 0] af fun ax an => ∃ (a1 : Int), ax = .returned (.int .i64 a1) ∧
 (a1 ≠ 0 →
 R (.tuple #[.pointer none, .slice none 0 0, .slice none 0 0, .int .i64 a1]) an) ∧
 (a1 = 0 →
 R (.tuple #[.pointer (some (blk ac)), .slice none 0 0, .slice none 0 0, .int .i64 0]) an)) ∧
 (a7 ≠ 0 →
 ∃ (ab : Int), af.cell? ((blk ac).add 2) = some (.int .u32 ab) ∧
 ∃ (ad : Int), af.cell? ((blk ac).add 1) = some (.int .i64 ad) ∧
 ∃ (a9 : Int), af.cell? ((blk ac).add 2) = some (.int .u32 a9) ∧
 ∀ (av : World), Ext no af av →
 Calls Try.prog 27 #[.pointer (some (blk ac)), .int .u32 ab] av fun b2 ak => ∃ (ah : Int), b2 = .returned (.int .i64 ah) ∧
 ak.cell? ((blk ac).add 2) = some (.int .u32 a9) ∧
 ak.cell? ((blk ac).add 1) = some (.int .i64 ad) ∧
 Calls Try.prog 26 #[.pointer d1, .int .i64 ah, .int .i64 ad, .int .u32 a9] ak fun az ai => ∃ (ae : Option Addr) (a4 : Option Addr) (a0 : Nat) (a8 : Nat) (a3 : Int), az = .returned (.tuple #[.pointer ae, .slice a4 a0 a8, .int .i64 a3]) ∧
 (a3 ≠ 0 →
 R (.tuple #[.pointer none, .slice none 0 0, .slice none 0 0, .int .i64 a3]) ai) ∧
 (a3 = 0 →
 ((a0 : Int) = 0 →
 R (.tuple #[.pointer none, .slice none 0 0, .slice none 0 0, .int .i64 4]) ai) ∧
 ((a0 : Int) ≠ 0 →
 canStore ai (((blk ac).add 3).add 0) ∧
 thenW (ai.setCell (((blk ac).add 3).add 0) (.pointer ae)) fun ao =>
 ∃ b3 : Addr, a4 = some b3 ∧
 (0 : Int) < (a0 : Int) ∧
 ∃ (au : Option Addr) (am : Nat) (ap : Nat), ao.cell? (b3.add (Int.toNat 0 * 1)) = some (.slice au am ap) ∧
 (1 : Int) ≤ (a0 : Int) ∧ 
 ∀ (al : World), Ext no ao al →
 R (.tuple #[.pointer (some (blk ac)), .slice au am ap, .slice (cutA a4 a8 1 1) (a0 - 1) (a8 - 1), .int .i64 0]) al))))))

theorem snapshot_Open.up (d1 : Option Addr) {R : Value → World → Prop} {w : World} (h : snapshot_Open.N d1 R w) : snapshot_Open.M d1 R w := by
  unfold snapshot_Open.M
  unfold snapshot_Open.N at h
  refine bif_of (fun c2 => ?_) (fun c2 => ?_)
  · have h := h.1 (isNone_t c2)
    exact h
  · have h := h.2 (isNone_f c2)
    refine h.mono fun bu bs h => ?_
    obtain ⟨aa, he, h⟩ := h
    refine ⟨aa, he, ?_⟩
    refine bif_of (fun c6 => ?_) (fun c6 => ?_)
    · have h := h.1 (of_decide_eq_true c6)
      exact h
    · have h := h.2 (Int.not_lt.1 (of_decide_eq_false c6))
      refine h.mono fun bt br h => ?_
      obtain ⟨ai, he, h⟩ := h
      refine ⟨ai, he, ?_⟩
      refine bif_of (fun ay => ?_) (fun ay => ?_)
      · have h := h.1 ay
        exact h
      · have h := h.2 ay
        refine h.mono fun bd ae h => ?_
        obtain ⟨a1, he, h⟩ := h
        refine ⟨a1, he, ?_⟩
        obtain ⟨bg, bl, h⟩ := h
        try rw [w64 bg bl]
        refine ⟨by decide, ?_⟩
        refine thenW_in fun ax ak => ?_
        have h := h ax ae.heap.size ((Ext.refl no ae).x_alloc ak) (Blk.of_new ak) ((Ext.refl no ae)).size (size_lt_alloc ak)
        refine h.mono fun bi bk h => ?_
        obtain ⟨a6, he, h⟩ := h
        refine ⟨a6, he, ?_⟩
        refine h.mono fun b7 bj h => ?_
        obtain ⟨a4, he, h⟩ := h
        refine ⟨a4, he, ?_⟩
        obtain ⟨hcs, h⟩ := h
        refine ⟨hcs, thenW_in fun aw bb => ?_⟩
        replace h := thenW_out h bb
        obtain ⟨a7, aj, h⟩ := h
        refine ⟨a7, aj, ?_⟩
        refine bif_of (fun am => ?_) (fun am => ?_)
        · have h := h.1 (beq_t am)
          refine h.mono fun ba bp h => ?_
          obtain ⟨a0, he, h⟩ := h
          refine ⟨a0, he, ?_⟩
          refine bif_of (fun b6 => ?_) (fun b6 => ?_)
          · have h := h.1 (bne_t b6)
            exact h
          · have h := h.2 (bne_f b6)
            exact h
        · have h := h.2 (beq_f am)
          refine thenW_in fun b4 bn => ?_
          have ab := (Ext.refl no aw).x_drew bn
          obtain ⟨a3, av, h⟩ := h
          refine ⟨a3, (ab).cell av id, ?_⟩
          obtain ⟨af, b0, h⟩ := h
          refine ⟨af, (ab).cell b0 id, ?_⟩
          obtain ⟨a9, ar, h⟩ := h
          refine ⟨a9, (ab).cell ar id, ?_⟩
          have h := h b4 ab
          refine h.mono fun bo b8 h => ?_
          obtain ⟨ag, he, h⟩ := h
          refine ⟨ag, he, ?_⟩
          obtain ⟨b1, au, h⟩ := h
          refine ⟨b1, au, ?_⟩
          refine h.mono fun bh be h => ?_
          obtain ⟨ac, a2, a5, a8, ad, he, h⟩ := h
          refine ⟨ac, a2, a5, a8, ad, he, ?_⟩
          refine bif_of (fun ap => ?_) (fun ap => ?_)
          · have h := h.1 (bne_t ap)
            exact h
          · have h := h.2 (bne_f ap)
            refine bif_of (fun an => ?_) (fun an => ?_)
            · have h := h.1 (beq_t an)
              exact h
            · have h := h.2 (beq_f an)
              obtain ⟨hcs, h⟩ := h
              refine ⟨hcs, thenW_in fun az bm => ?_⟩
              replace h := thenW_out h bm
              refine thenW_in fun al bf => ?_
              have ah := (Ext.refl no az).x_drew bf
              obtain ⟨bq, b2, h⟩ := h
              refine elim_some b2 ?_
              obtain ⟨bc, h⟩ := h
              refine ⟨by decide, bc, ?_⟩
              obtain ⟨b5, aq, b3, ao, h⟩ := h
              refine ⟨b5, aq, b3, (ah).cell ao id, ?_⟩
              obtain ⟨b9, h⟩ := h
              refine ⟨by decide, b9, ?_⟩
              have h := h al ah
              exact h

theorem snapshot_Open.go (d1 : Option Addr) {R : Value → World → Prop} {w : World} (h : snapshot_Open.N d1 R w) : Calls Try.prog 8 #[.pointer d1] w fun e w' => ∃ v, e = .returned v ∧ R v w' := snapshot_Open.ok d1 (snapshot_Open.up d1 h)
theorem snapshot_Open.run (d1 : Option Addr) {V : Value} {Q : World → Prop} {w : World} (h : snapshot_Open.N d1 (fun v w' => v = V ∧ Q w') w) : Calls Try.prog 8 #[.pointer d1] w (Ret V Q) := (snapshot_Open.go d1 h).mono fun e w' ⟨v, he, hv, hq⟩ => ⟨by rw [he, hv], hq⟩

end Go.Proofs.Ytidijnfkcpbkiaa

/- Snapshot: heads; the small functions of a store. -/
set_option linter.unusedVariables false
set_option linter.unusedSimpArgs false
set_option maxRecDepth 20000
set_option maxHeartbeats 2000000
namespace Go.Proofs.Ytidijnfkcpbkiaa
open Go Go.Mx Go.Proofs
open W (OwnB GivesW)
def whichN (n : Nat) : Nat := (n + 1) % 2
def headB (n : Nat) : List UInt8 := 94 :: (be4 n ++ List.replicate 59 0)
theorem headB_len (n : Nat) : (headB n).length = 64 := rfl
theorem and_one64 (k : Nat) : ((BitVec.ofInt (IntKind.bits .i64) (k : Int) &&& BitVec.ofInt (IntKind.bits .i64) 1).toNat : Nat) = k % 2 := by
  show ((BitVec.ofInt 64 (k : Int) &&& BitVec.ofInt 64 1)).toNat = k % 2
  rw [BitVec.toNat_and, show (BitVec.ofInt 64 1).toNat = 1 from rfl, Nat.and_one_is_mod, BitVec.ofInt_natCast, BitVec.toNat_ofNat]
  omega
section
variable {w w' w1 : World} {o o' o1 : Own} {q g p N m : Nat} {K : Nat → Prop} {b s : List UInt8} {a : Option Addr} {c : Nat} {d : DS} {J : JS} {lg : Option Addr}
theorem which_spec (n : Nat) (hn : n < 4294967296) : Calls Try.prog 35 #[.int .u32 n] w (Ret (.int .i64 (whichN n)) fun w' => w' = w) := by
  refine snapshot_which.run _ ?_
  unfold snapshot_which.N
  have e : IntKind.u32.wrap ((n : Int) + 1) = (((n + 1) % 4294967296 : Nat) : Int) := by rw [IntKind.wrap_u32]; omega
  rw [e, and_one64]
  refine ⟨by omega, by omega, ?_, rfl⟩
  congr 1
  rw [w64 (by omega) (by omega)]
  unfold whichN; omega
/-- a store. -/
structure SS where
  half : Int
  number : Nat
  dead : Bool
def SS.V (S : SS) (g : Nat) (lg : Option Addr) : List Value := [.pointer (some (blk g)), .int .i64 S.half, .int .u32 S.number, .pointer lg, .bool S.dead]
structure SG (w : World) (o : Own) (p g : Nat) (lg : Option Addr) (S : SS) : Prop where
  mem : Blk w p 60 (S.V g lg)
  tg : o p = some p
theorem SG.step {S : SS} (h : SG w o p g lg S) (s : Step K w o w' o') (hk : ¬ K p) : SG w' o' p g lg S := ⟨s.blk h.mem h.tg hk, by rw [s.own h.mem.lt]; exact h.tg⟩
theorem base_spec {S : SS} (h : SG w o p g lg S) (hh : 0 ≤ S.half ∧ S.half ≤ 1000) (n : Nat) (hn : n < 4294967296) : Calls Try.prog 27 #[.pointer (some (blk p)), .int .u32 n] w (Ret (.int .i64 (2 + whichN n * S.half)) fun w' => Ext no w w') := by
  refine snapshot_Store_base.run _ _ ?_
  unfold snapshot_Store_base.N
  have hw2 : whichN n < 2 := Nat.mod_lt _ (by decide)
  refine ⟨_, rfl, _, h.mem.cella (i := 1) rfl, fun w3 X3 => (which_spec n hn).mono fun u w9 ⟨he, hw⟩ => ⟨_, he, ?_⟩⟩
  subst hw
  have hm : (0 : Int) ≤ (whichN n : Int) * S.half ∧ (whichN n : Int) * S.half ≤ 1000 := by
    rcases Nat.lt_or_ge (whichN n) 1 with h0 | h0
    · rw [show whichN n = 0 by omega]; omega
    · rw [show whichN n = 1 by omega]; omega
  exact ⟨(h.mem.ext X3 id).cella (i := 1) rfl, by omega, by omega, by omega, by omega, rfl, X3⟩
theorem see_spec {S : SS} (h : SG w o p g lg S) (ok : Tags w o) (k : Int) : Calls Try.prog 38 #[.pointer (some (blk p)), .int .i64 k] w (Ret (.int .i64 k) fun w' => ∃ o', Step (fun i => i = p) w o w' o' ∧ SG w' o' p g lg { S with dead := if k = 19 then true else S.dead }) := by
  refine snapshot_Store_see.run _ _ ?_
  unfold snapshot_Store_see.N
  have ha : ((blk p).add 4).add 0 = (blk p).add 4 := by rw [add_add]
  rw [show (if k = 19 then true else S.dead) = (if k = 19 then true else S.dead) from rfl]
  refine ⟨fun hk => ⟨_, rfl, ?_⟩, fun hk => ⟨rfl, _, (Step.refl _ ok), ?_⟩⟩
  · rw [ha]
    refine ⟨h.mem.cana (i := 4) rfl, thenW_in fun w2 e2 => ⟨rfl, ?_⟩⟩
    have X : Ext (fun b => b = p) w w2 := (Ext.refl (fun b => b = p) w).x_set (q := p) (i := 4) rfl (.inl rfl) e2
    obtain ⟨o2, s2⟩ := Step.store1 X ok h.tg
    exact ⟨o2, s2, by rw [if_pos hk]; exact h.mem.seti 4 rfl e2, by rw [s2.own h.mem.lt]; exact h.tg⟩
  · rw [if_neg hk]; exact h
/-- a head on its way: its first t bytes of the number are there. -/
def headT (n t : Nat) : List UInt8 := 0 :: ((be4 n).take t ++ List.replicate (63 - t) 0)
theorem head_spec (n : Nat) : Calls Try.prog 36 #[.int .u32 n] w (fun z w' => ∃ q, z = .returned (.slice (some (blk q)) 64 64) ∧ w.heap.size ≤ q ∧ q < w'.heap.size ∧ Ext no w w' ∧ Blk w' q 5 (bytesV (headB n))) := by
  refine (snapshot_head.go _ (R := fun z w' => ∃ q, z = (.slice (some (blk q)) 64 64) ∧ w.heap.size ≤ q ∧ q < w'.heap.size ∧ Ext no w w' ∧ Blk w' q 5 (bytesV (headB n))) ?_).mono fun z w' ⟨u, he, q, hu, hw⟩ => ⟨q, by rw [he, hu], hw⟩
  unfold snapshot_head.N
  obtain ⟨w3, hmk, X3, hb3, hlt3⟩ := dmk_bytes w 64 (by decide)
  refine ⟨_, _, _, w3, hmk, ?_⟩
  have hset : ∀ (l : List UInt8) (i : Nat) (v : UInt8), (bytesV l).set i (u8V v) = bytesV (l.set i v) := fun l i v => by unfold bytesV; rw [List.map_set]
  refine ⟨fun m vs w1 => ∃ t : Nat, vs = [.int .i64 t] ∧ m + t = 4 ∧ Ext no w w1 ∧ Blk w1 w.heap.size 5 (bytesV (headT n t)), 4, ⟨0, rfl, rfl, X3, hb3⟩, ?_⟩
  rintro m w7 i ⟨t, hi, hm, X7, hb7⟩
  simp only [List.cons.injEq, Value.int.injEq, true_and, and_true] at hi
  subst hi
  have hl7 : ∀ t, t ≤ 4 → (bytesV (headT n t)).length = 64 := fun t ht => by
    rw [bytesV_length]
    unfold headT
    rw [List.length_cons, List.length_append, List.length_take, List.length_replicate]
    show min t 4 + (63 - t) + 1 = 64
    omega
  refine ⟨fun ht => ?_, fun ht => ?_⟩
  · have ht4 : t < 4 := by omega
    refine ⟨by omega, by omega, fun e => ?_, fun e => ?_, fun e => ?_, fun e => ?_⟩
    · have ht0 : t = 0 := by omega
      subst ht0
      have had : ((blk w.heap.size).add (Int.toNat ((1 : Int) + ((0 : Nat) : Int)) * 1)).add 0 = (blk w.heap.size).add 1 := by rw [add_add]; rfl
      have hget : (bytesV (headT n 0))[1]? = some (u8V 0) := rfl
      have hv : Value.int .u8 (IntKind.u8.wrap ((n : Int) / 16777216)) = u8V (UInt8.ofNat (n / 16777216)) := wrapU8i (z := ((n / 16777216 : Nat) : Int)) (Int.natCast_nonneg _)
      refine ⟨by omega, by omega, _, rfl, by omega, by omega, ?_⟩
      rw [had, hv]
      refine ⟨hb7.cana (i := 1) hget, thenW_in fun w8 e8 => ⟨by omega, by omega, m - 1, by omega, 1, rfl, by omega, X7.x_set (q := w.heap.size) (i := 1) rfl (.inr (Nat.le_refl _)) e8, ?_⟩⟩
      have := hb7.seti 1 rfl e8
      rw [hset] at this
      skip
      exact this
    · have ht0 : t = 1 := by omega
      subst ht0
      have had : ((blk w.heap.size).add (Int.toNat ((1 : Int) + ((1 : Nat) : Int)) * 1)).add 0 = (blk w.heap.size).add 2 := by rw [add_add]; rfl
      have hget : (bytesV (headT n 1))[2]? = some (u8V 0) := rfl
      have hv : Value.int .u8 (IntKind.u8.wrap ((n : Int) / 65536)) = u8V (UInt8.ofNat (n / 65536)) := wrapU8i (z := ((n / 65536 : Nat) : Int)) (Int.natCast_nonneg _)
      refine ⟨by omega, by omega, _, rfl, by omega, by omega, ?_⟩
      rw [had, hv]
      refine ⟨hb7.cana (i := 2) hget, thenW_in fun w8 e8 => ⟨by omega, by omega, m - 1, by omega, 2, rfl, by omega, X7.x_set (q := w.heap.size) (i := 2) rfl (.inr (Nat.le_refl _)) e8, ?_⟩⟩
      have := hb7.seti 2 rfl e8
      rw [hset] at this
      skip
      exact this
    · have ht0 : t = 2 := by omega
      subst ht0
      have had : ((blk w.heap.size).add (Int.toNat ((1 : Int) + ((2 : Nat) : Int)) * 1)).add 0 = (blk w.heap.size).add 3 := by rw [add_add]; rfl
      have hget : (bytesV (headT n 2))[3]? = some (u8V 0) := rfl
      have hv : Value.int .u8 (IntKind.u8.wrap ((n : Int) / 256)) = u8V (UInt8.ofNat (n / 256)) := wrapU8i (z := ((n / 256 : Nat) : Int)) (Int.natCast_nonneg _)
      refine ⟨by omega, by omega, _, rfl, by omega, by omega, ?_⟩
      rw [had, hv]
      refine ⟨hb7.cana (i := 3) hget, thenW_in fun w8 e8 => ⟨by omega, by omega, m - 1, by omega, 3, rfl, by omega, X7.x_set (q := w.heap.size) (i := 3) rfl (.inr (Nat.le_refl _)) e8, ?_⟩⟩
      have := hb7.seti 3 rfl e8
      rw [hset] at this
      skip
      exact this
    · have ht0 : t = 3 := by omega
      subst ht0
      have had : ((blk w.heap.size).add (Int.toNat ((1 : Int) + ((3 : Nat) : Int)) * 1)).add 0 = (blk w.heap.size).add 4 := by rw [add_add]; rfl
      have hget : (bytesV (headT n 3))[4]? = some (u8V 0) := rfl
      have hv : Value.int .u8 (IntKind.u8.wrap ((n : Int) / 1)) = u8V (UInt8.ofNat (n / 1)) := wrapU8i (z := ((n / 1 : Nat) : Int)) (Int.natCast_nonneg _)
      refine ⟨by omega, by omega, _, rfl, by omega, by omega, ?_⟩
      rw [had, hv]
      refine ⟨hb7.cana (i := 4) hget, thenW_in fun w8 e8 => ⟨by omega, by omega, m - 1, by omega, 4, rfl, by omega, X7.x_set (q := w.heap.size) (i := 4) rfl (.inr (Nat.le_refl _)) e8, ?_⟩⟩
      have := hb7.seti 4 rfl e8
      rw [hset] at this
      rw [Nat.div_one] at this
      exact this
  · have ht4 : t = 4 := by omega
    subst ht4
    have had : ((blk w.heap.size).add (Int.toNat 0 * 1)).add 0 = (blk w.heap.size).add 0 := by rw [add_add]; rfl
    have hget : (bytesV (headT n 4))[0]? = some (u8V 0) := rfl
    refine ⟨_, rfl, by omega, ?_⟩
    rw [had]
    refine ⟨hb7.cana (i := 0) hget, thenW_in fun w8 e8 => ⟨w.heap.size, rfl, Nat.le_refl _, ?_, ?_, ?_⟩⟩
    · have := (hb7.seti 0 (v := u8V 94) rfl e8).lt; exact this
    · exact X7.x_set (q := w.heap.size) (i := 0) rfl (.inr (Nat.le_refl _)) e8
    · have := hb7.seti 0 (v := u8V 94) rfl e8
      rw [hset] at this
      exact this
end
end Go.Proofs.Ytidijnfkcpbkiaa

/- Snapshot: the number of a head (both). -/
set_option linter.unusedVariables false
set_option linter.unusedSimpArgs false
set_option maxRecDepth 20000
set_option maxHeartbeats 2000000
namespace Go.Proofs.Ytidijnfkcpbkiaa
open Go Go.Mx Go.Proofs
open W (OwnB GivesW)
/-- the number of a head's bytes at place i (0: it is none). -/
def numH (b : List UInt8) (i : Int) : Nat := if numB b 1 = 0 then 0 else if (whichN (numB b 1) : Int) ≠ i then 0 else if headB (numB b 1) = b then numB b 1 else 0
theorem numH_nil (i : Int) : numH [] i = 0 := by
  unfold numH
  exact if_pos (by unfold numB byteN; simp)
section
variable {w w' w1 : World} {o o' o1 : Own} {q g p N m : Nat} {K : Nat → Prop} {b s x y : List UInt8} {a ba : Option Addr} {c bc : Nat} {d : DS} {J : JS}
theorem byteN_at {l : List UInt8} {i : Nat} (h : i < l.length) : (l[i]).toNat = byteN l i := by
  unfold byteN; rw [List.getElem?_eq_getElem h]; rfl
theorem equalB_spec (hx : RowAt w a (bytesV x)) (hy : RowAt w ba (bytesV y)) (hl : x.length < 1000000) :
    Calls Try.prog 49 #[.slice a x.length c, .slice ba y.length bc] w (Ret (.bool (decide (x = y))) fun w' => Ext no w w') := by
  refine slices_Equal_byte_byte.run _ _ _ _ _ _ ?_
  unfold slices_Equal_byte_byte.N
  refine ⟨fun h => ⟨by rw [decide_eq_false fun e => h (by rw [e])], Ext.refl _ _⟩, fun h => ?_⟩
  have hlen : x.length = y.length := by omega
  refine ⟨fun m vs w1 => ∃ t : Nat, vs = [.int .i64 t] ∧ m + t = x.length ∧ Ext no w w1 ∧ x.take t = y.take t, x.length, ⟨0, rfl, rfl, Ext.refl _ _, rfl⟩, ?_⟩
  rintro m w7 i ⟨t, hi, hm, X7, ht7⟩
  simp only [List.cons.injEq, Value.int.injEq, true_and, and_true] at hi
  subst hi
  refine ⟨fun ht => ?_, fun ht => ⟨?_, X7⟩⟩
  · have htl : t < x.length := by omega
    obtain ⟨a1, h1, c1⟩ := byte_cell (hx.no X7) htl
    obtain ⟨a2, h2, c2⟩ := byte_cell (hy.no X7) (i := t) (by omega)
    refine ⟨a1, h1, by omega, by omega, _, by rw [Int.toNat_natCast]; exact c1, a2, h2, by omega, by omega, _, by rw [Int.toNat_natCast]; exact c2, fun hne w9 X9 => ⟨?_, X7.trans X9⟩, fun he => ⟨by omega, by omega, fun w9 X9 => ⟨m - 1, by omega, t + 1, rfl, by omega, X7.trans X9, ?_⟩⟩⟩
    · rw [decide_eq_false fun e => hne (by rw [e])]
    · have g1 := byteN_at htl
      have g2 := byteN_at (l := y) (i := t) (by omega)
      have : x[t] = y[t]'(by omega) := UInt8.toNat_inj.1 (by rw [g1, g2]; omega)
      rw [List.take_add_one, List.take_add_one, ht7, List.getElem?_eq_getElem htl, List.getElem?_eq_getElem (show t < y.length by omega), this]
  · have htt : t = x.length := by omega
    rw [List.take_of_length_le (by omega), List.take_of_length_le (by omega)] at ht7
    rw [decide_eq_true ht7]
theorem snumber_spec (h : DG w o g d) (ok : Tags w o) (i : Int) (hpl : d.pend.length < 1000000) :
    Calls Try.prog 24 #[.func (.func 25) #[.pointer (some (blk g))] #[], .int .i64 i] w (Ret (.int .u32 (numH (readD d i).1 i)) fun w' => Ext no w w') := by
  refine snapshot_number.run _ _ _ _ ?_
  unfold snapshot_number.N
  refine ⟨by kernel_rfl, ?_⟩
  refine Calls.mono (dRead_spec h ok i hpl) fun u w11 ⟨ra, rn, rc, o11, he, hn, hnc, s11, hR1, hR0⟩ => ⟨ra, rn, rc, _, he, fun hz => ?_, fun hz => ?_⟩
  all_goals have X11 : Ext no w w11 := s11.ext.mono fun b ⟨_, _, h⟩ _ => h
  · have e : (readD d i).1 = [] := by
      unfold readD at hz ⊢
      split at hz
      · rename_i h0
        rw [if_pos h0]
        split at hz
        · rename_i h1; rw [if_pos h1]
        · exact absurd rfl hz
      · rename_i h0
        rw [if_neg h0]
    rw [e]
    exact ⟨by rw [numH_nil]; rfl, X11⟩
  · obtain ⟨q, tt, e, hbk, hl, hq, _⟩ := hR0 hz
    subst e
    have hrow : RowAt w11 (some (blk q)) (bytesV (readD d i).1) := by
      have := (RowAt.of_blk hbk).take (bytesV (readD d i).1).length
      rwa [List.take_left] at this
    have h64 : (readD d i).1.length = 64 := by
      unfold readD at hz ⊢
      split at hz
      · rename_i h0
        rw [if_pos h0]
        split at hz
        · cases hz
        · rename_i h1
          rw [if_neg h1]; exact (readS d i).h
      · rename_i h0
        exact absurd hz h0
    generalize (readD d i).1 = b at *
    subst hn
    refine ⟨by omega, ?_⟩
    refine ⟨fun m vs w1 => ∃ t : Nat, vs = [.int .u32 (numP b 1 t), .int .i64 t] ∧ m + t = 4 ∧ w1 = w11, 4, ⟨0, rfl, rfl, rfl⟩, ?_⟩
    rintro m w12 n t ⟨t', hi', hm, rfl⟩
    simp only [List.cons.injEq, Value.int.injEq, true_and, and_true] at hi'
    obtain ⟨rfl, rfl⟩ := hi'
    refine ⟨fun ht => ?_, fun ht => ?_⟩
    · have ht4 : t' < 4 := by omega
      have hd : RowAt w12 (cutA (some (blk q)) rc 1 1) (bytesV (b.drop 1)) := by
        have := hrow.cut 1 rc (by rw [bytesV_length]; exact hnc)
        unfold bytesV at this ⊢
        rwa [← List.map_drop] at this
      obtain ⟨ad, ha, hcell⟩ := byte_cell hd (i := t') (by rw [List.length_drop]; omega)
      have hb : byteN (b.drop 1) t' = byteN b (1 + t') := by unfold byteN; rw [List.getElem?_drop]
      rw [hb] at hcell
      refine ⟨ad, ha, by omega, by omega, _, by rw [Int.toNat_natCast]; exact hcell, by omega, by omega, m - 1, by omega, t' + 1, ?_, by omega, rfl⟩
      rw [or_step _ _ (numP_lt b 1 t' (by omega)) (byteN_lt _ _)]; rfl
    · have ht4 : t' = 4 := by omega
      subst ht4
      rw [numP_four]
      have hlt := numB_lt b 1
      unfold numH
      refine ⟨fun h0 => ⟨by rw [if_pos (by omega)]; rfl, X11⟩, fun h0 => ?_⟩
      rw [if_neg (show ¬ numB b 1 = 0 by omega)]
      refine (which_spec (numB b 1) hlt).mono fun u w21 ⟨he, hw⟩ => ⟨_, he, fun hne => ⟨by rw [if_pos hne]; rfl, by subst hw; exact X11⟩, fun heq => ?_⟩
      subst hw
      rw [if_neg (not_not_intro heq)]
      refine (head_spec (numB b 1)).mono fun u w25 ⟨q2, he, hq2, _, X25, hb25⟩ => ⟨_, _, _, he, ?_⟩
      refine (equalB_spec (x := headB (numB b 1)) (c := 64) (bc := rc) (RowAt.of_blk hb25) (hrow.no X25) (by rw [headB_len]; decide)).mono fun u w28 ⟨he, X28⟩ => ⟨_, he, fun hf => ⟨by rw [if_neg (of_decide_eq_false hf)]; rfl, (X11.trans X25).trans X28⟩, fun ht => ⟨by rw [if_pos (of_decide_eq_true ht)], (X11.trans X25).trans X28⟩⟩
end
end Go.Proofs.Ytidijnfkcpbkiaa

/- Snapshot: the reference's number of a head. -/
set_option linter.unusedVariables false
set_option linter.unusedSimpArgs false
set_option maxRecDepth 20000
set_option maxHeartbeats 2000000
namespace Go.Proofs.Ytidijnfkcpbkiaa
open Go Go.Mx Go.Proofs
open W (OwnB GivesW)
section
variable {w w' w1 : World} {o o' o1 : Own} {q g p N m : Nat} {K : Nat → Prop} {b s x y : List UInt8} {a ba : Option Addr} {c bc : Nat}
end
end Go.Proofs.Ytidijnfkcpbkiaa

/- Snapshot: Append of a store. -/
set_option linter.unusedVariables false
set_option linter.unusedSimpArgs false
set_option maxRecDepth 20000
set_option maxHeartbeats 2000000
namespace Go.Proofs.Ytidijnfkcpbkiaa
open Go Go.Mx Go.Proofs
open W (OwnB GivesW)
section
variable {w w' w1 : World} {o o' o1 : Own} {q g p N m : Nat} {K : Nat → Prop} {b : List UInt8} {a ba : Option Addr} {c bc : Nat} {d : DS} {J : JS} {S : SS}
def SS.seen (S : SS) (k : Int) : SS := { S with dead := if k = 19 then true else S.dead }
theorem sAppend_spec (h : SG w o p g (some (blk q)) S) (hJ : JG w o q g J) (hD : DG w o g d) (ok : Tags w o) (hpq : p ≠ q) (hpg : p ≠ g) (hqg : q ≠ g) (hS : S.dead = false) (hd : d.ok m) (hm : m + 100 < 100000) (hj : J.ok) (hb : RowAt w a (bytesV b)) (hc : b.length ≤ c) (hbl : b.length < 1000000) :
    Calls Try.prog 11 #[.pointer (some (blk p)), .slice a b.length c] w (Ret (.int .i64 (appendJ d J b).2) fun w' => ∃ o', Step (fun i => i = p ∨ i = q ∨ i = g) w o w' o' ∧ SG w' o' p g (some (blk q)) (S.seen (appendJ d J b).2) ∧ JG w' o' q g (appendJ d J b).1.2 ∧ DG w' o' g (appendJ d J b).1.1) := by
  refine snapshot_Store_Append.run _ _ _ _ ?_
  unfold snapshot_Store_Append.N
  refine ⟨fun e => (by cases e), fun _ => ⟨_, rfl, S.dead, h.mem.cella (i := 4) rfl, fun hdd => absurd (hdd.symm.trans hS) (by decide), fun _ => ⟨_, h.mem.cella (i := 3) rfl, ?_⟩⟩⟩
  refine (Append_spec hJ hD ok hqg hd hm hj hb hc hbl).mono fun u w22 ⟨he, o22, s22, J22, D22⟩ => ⟨_, he, ?_⟩
  have h22 := h.step s22 (show ¬ (p = q ∨ p = g) by omega)
  refine (see_spec h22 s22.ok (appendJ d J b).2).mono fun u w25 ⟨he, o25, s25, S25⟩ => ⟨_, he, rfl, o25, ?_, S25, J22.step s25 (show ¬ q = p by omega), D22.step s25 (show ¬ g = p by omega)⟩
  exact (s22.mono fun _ h _ => .inr h).trans (s25.mono fun _ h _ => .inl h)
end
end Go.Proofs.Ytidijnfkcpbkiaa

/- Snapshot: the steps of a Compact. -/
set_option linter.unusedVariables false
set_option linter.unusedSimpArgs false
set_option maxRecDepth 20000
set_option maxHeartbeats 2000000
namespace Go.Proofs.Ytidijnfkcpbkiaa
open Go Go.Mx Go.Proofs
open W (OwnB GivesW)
section
variable {w w' w1 : World} {o o' o1 : Own} {q g p N m qk ql qs qp qn : Nat} {K : Nat → Prop} {b : List UInt8} {a ba : Option Addr} {c bc : Nat} {d : DS} {J : JS} {S : SS} {k : Int} {lg : Option Addr}
theorem step1_spec (h : w.cell? (blk qk) = some (.int .i64 k)) : Calls Try.prog 30 #[.pointer (some (blk qk))] w (Ret (.int .i64 k) fun w' => w' = w) := by
  refine snapshot_Store_Compact_1.run _ ?_
  unfold snapshot_Store_Compact_1.N
  exact ⟨_, h, rfl, rfl⟩
theorem step2_spec (hl : w.cell? (blk ql) = some (.pointer (some (blk q)))) (hs : w.cell? (blk qs) = some (.slice a b.length c)) (hJ : JG w o q g J) (hD : DG w o g d) (ok : Tags w o) (hqg : q ≠ g) (hd : d.ok m) (hm : m + 100 < 100000) (hj : J.ok) (hb : RowAt w a (bytesV b)) (hc : b.length ≤ c) (hbl : b.length < 1000000) :
    Calls Try.prog 31 #[.pointer (some (blk ql)), .pointer (some (blk qs))] w (Ret (.int .i64 (appendJ d J b).2) fun w' => ∃ o', Step (fun i => i = q ∨ i = g) w o w' o' ∧ JG w' o' q g (appendJ d J b).1.2 ∧ DG w' o' g (appendJ d J b).1.1) := by
  refine snapshot_Store_Compact_2.run _ _ ?_
  unfold snapshot_Store_Compact_2.N
  exact ⟨_, hl, _, _, _, hs, (Append_spec hJ hD ok hqg hd hm hj hb hc hbl).mono fun u w9 ⟨he, hw⟩ => ⟨_, he, rfl, hw⟩⟩
theorem step3_spec {n : Nat} (hp : w.cell? (blk qp) = some (.pointer (some (blk p)))) (hn : w.cell? (blk qn) = some (.int .u32 n)) (hn2 : n < 4294967296) (h : SG w o p g lg S) (hD : DG w o g d) (ok : Tags w o) (hd : d.ok m) (hm : m < 100000) :
    Calls Try.prog 33 #[.pointer (some (blk qp)), .pointer (some (blk qn))] w (Ret (.int .i64 (writeD d (whichN n) (headB n)).2) fun w' => ∃ o', Step (fun i => i = g) w o w' o' ∧ DG w' o' g (writeD d (whichN n) (headB n)).1) := by
  refine snapshot_Store_Compact_3.run _ _ ?_
  unfold snapshot_Store_Compact_3.N
  refine ⟨_, hp, _, rfl, _, h.mem.cella (i := 0) rfl, _, hn, _, hn, fun w3 X3 => ?_⟩
  refine (which_spec n hn2).mono fun u w15 ⟨he, hw⟩ => ?_
  subst hw
  refine ⟨_, he, X3.cell hn id, (h.mem.ext X3 id).cella (i := 0) rfl, X3.cell hp id, ?_⟩
  refine (head_spec n).mono fun u w21 ⟨q2, he, hq2, _, X21, hb21⟩ => ⟨_, _, _, he, ?_⟩
  have X := X3.trans X21
  refine ⟨(h.mem.ext X id).cella (i := 0) rfl, X.cell hp id, ?_⟩
  have s21 := Step.of_no X ok
  have hw := dWrite_spec (ba := some (blk q2)) (bc := 64) (b := headB n) (hD.step s21 id) s21.ok hd hm (whichN n) (RowAt.of_blk hb21)
  exact hw.mono fun u w26 ⟨he, o26, s26, D26⟩ => ⟨_, he, rfl, o26, s21.none.trans s26, D26⟩
/-- what a Compact leaves, and answers: where all steps are done, the new journal. -/
def compactK (d : DS) (S : SS) (b : List UInt8) : DS × Option JS × Int :=
  match openK d (2 + whichN (S.number + 1) * S.half) S.half (S.number + 1) with
  | (none, _, k) => (d, none, k)
  | (some J, _, _) =>
    if (appendJ d J.anew b).2 ≠ 0 then ((appendJ d J.anew b).1.1, none, (appendJ d J.anew b).2)
    else if (writeD (appendJ d J.anew b).1.1 (whichN (S.number + 1)) (headB (S.number + 1))).2 ≠ 0 then ((writeD (appendJ d J.anew b).1.1 (whichN (S.number + 1)) (headB (S.number + 1))).1, none, (writeD (appendJ d J.anew b).1.1 (whichN (S.number + 1)) (headB (S.number + 1))).2)
    else if (syncD (writeD (appendJ d J.anew b).1.1 (whichN (S.number + 1)) (headB (S.number + 1))).1).2 ≠ 0 then ((syncD (writeD (appendJ d J.anew b).1.1 (whichN (S.number + 1)) (headB (S.number + 1))).1).1, none, (syncD (writeD (appendJ d J.anew b).1.1 (whichN (S.number + 1)) (headB (S.number + 1))).1).2)
    else ((syncD (writeD (appendJ d J.anew b).1.1 (whichN (S.number + 1)) (headB (S.number + 1))).1).1, some (appendJ d J.anew b).1.2, 0)
end
end Go.Proofs.Ytidijnfkcpbkiaa

/- JournalCrash, plainly: a journal through appends and crashes. -/
set_option linter.unusedVariables false
set_option linter.unusedSimpArgs false
set_option maxRecDepth 20000
set_option maxHeartbeats 2000000
namespace Go.Proofs.Ytidijnfkcpbkiaa
open Go Go.Mx Go.Proofs
theorem JI.blank {L : List (List UInt8)} {gen R : Nat} (hg : gen < 4294967296) (h : ∀ s ∈ L, ¬ mg gen s) : JI L gen R [] 0 := by
  refine ⟨?_, fun s hs hm => absurd hm (h s (List.mem_of_mem_drop hs)), fun s hs hm => absurd hm (h s (List.mem_of_mem_drop hs)), fun s hs hm => absurd hm (h s hs)⟩
  refine scan_none (L.length + 1) fun hO => ?_
  exact h _ (List.mem_of_mem_take hO.head) (oks_mem hO hg (by decide) _ hO.head).1
/-- a journal on a disk that is up, behind t acts. -/
structure CS (d : DS) (J : JS) (want : List (List UInt8)) (gen size T t : Nat) : Prop where
  down : d.down = false
  pend : d.pend = []
  ok : d.ok (100 * t)
  good : d.good.length = 60
  base : J.base = 0
  jsize : J.size = size
  jgen : J.gen = gen
  round : 1 ≤ J.round ∧ J.round ≤ t + 1
  tail : J.tail = T
  seq : J.seq = want.length
  dead : J.dead = false
  ji : JI (readsD d 0 size) gen J.round want T
  len : want.length ≤ t
section
variable {d : DS} {J : JS} {want : List (List UInt8)} {gen size T t : Nat} {b : List UInt8}
theorem CS.up (h : CS d J want gen size T t) : CS d J want gen size T (t + 1) :=
  ⟨h.down, h.pend, h.ok.up (by omega), h.good, h.base, h.jsize, h.jgen, ⟨h.round.1, Nat.le_succ_of_le h.round.2⟩, h.tail, h.seq, h.dead, h.ji, Nat.le_succ_of_le h.len⟩
theorem CS.tl (h : CS d J want gen size T t) : T ≤ size ∧ want.length ≤ T := by
  have := h.ji.len
  rw [readsD_len] at this
  exact this
theorem CS.jok (h : CS d J want gen size T t) (hg : gen < 4294967296) (hs : size ≤ 60) (ht : t ≤ 100) : J.ok := by
  have h1 := h.tl
  have h2 := h.round
  have h3 := h.base
  have h4 := h.jsize
  have h5 := h.jgen
  have h6 := h.tail
  have h7 := h.seq
  exact ⟨by omega, by omega, by omega, by omega, by omega, by omega⟩
theorem open_up {d : DS} (hd : d.down = false) (hg : d.good.length = 60) (h1 : 1 ≤ size) (h2 : size ≤ 60) (h0 : gen ≠ 0) {R : Nat} (h : JI (readsD d 0 size) gen R want T) (hR : R < 4294967295) :
    openK d 0 size gen = (some ⟨0, size, gen, roundOf gen (readsD d 0 size) + 1, T, want.length, false⟩, want, 0) := by
  have hst : stretchK d 0 size gen = (readsD d 0 size, 0) := by
    unfold stretchK
    rw [if_neg (by omega), hd]; rfl
  have hr := h.le
  have hsc := h.scan
  have hrr : (scanK (readsD d 0 size) gen).2 = roundOf gen (readsD d 0 size) := rfl
  unfold openK
  rw [hst]
  rw [if_neg (show ¬ ((readsD d 0 size, (0 : Int)).2 ≠ 0) from not_not_intro rfl)]
  rw [if_neg (show ¬ (scanK (readsD d 0 size, (0 : Int)).1 gen).2 = 4294967295 from (by show ¬ roundOf gen (readsD d 0 size) = 4294967295; omega))]
  show (some (JS.mk 0 size gen (roundOf gen (readsD d 0 size) + 1) (((scanK (readsD d 0 size) gen).1.2 : Nat) : Int) (((scanK (readsD d 0 size) gen).1.1.length : Nat) : Int) false), (scanK (readsD d 0 size) gen).1.1, (0 : Int)) = _
  rw [hsc]
theorem CS.reopen (h : CS d J want gen size T t) (h1 : 1 ≤ size) (h2 : size ≤ 60) (h0 : gen ≠ 0) (ht : t ≤ 100) : (openK d 0 size gen).2 = (want, 0) := by
  rw [open_up h.down h.good h1 h2 h0 h.ji (by have := h.round; omega)]
/-- an act. -/
theorem CS.act (h : CS d J want gen size T t) (h1 : 1 ≤ size) (h2 : size ≤ 60) (h0 : gen ≠ 0) (hg : gen < 4294967296) (ht : t ≤ 100) (hb : b.length ≤ 500) :
    ((appendJ d J b).2 = 0 ∧ CS (appendJ d J b).1.1 (appendJ d J b).1.2 (want ++ [b]) gen size (T + partsN b.length) (t + 1)) ∨
    ((appendJ d J b).2 = 18 ∧ (appendJ d J b).1 = (d, J) ∧ (size : Int) - T < partsN b.length) ∨
    ((appendJ d J b).2 = 19 ∧ (appendJ d J b).1.1.down = true ∧ (appendJ d J b).1.2.dead = true ∧ (appendJ d J b).1.2.ok ∧ (appendJ d J b).1.1.ok (100 * (t + 1)) ∧ ∀ keep, ∃ want2 T2 J2, (want2 = want ∨ want2 = want ++ [b]) ∧ openK (restartD (appendJ d J b).1.1 keep) 0 size gen = (some J2, want2, 0) ∧
      CS (restartD (appendJ d J b).1.1 keep) J2 want2 gen size T2 (t + 1)) := by
  have hj := h.jok hg h2 ht
  have hp := partsN_pos (n := b.length) (by omega)
  have htl := h.tl
  have hrd := h.round
  have hbs := h.base
  have hsz := h.jsize
  have hgn := h.jgen
  have hta := h.tail
  have hsq := h.seq
  have hgo := h.good
  have hln := h.len
  have kA := (appendJ_ok h.ok J b).up (n := 100 * (t + 1)) (by omega)
  by_cases hf : (partsN b.length : Int) ≤ (size : Int) - T
  · have hjb : J.base.toNat = 0 := by omega
    have hjq : J.seq.toNat = want.length := by omega
    obtain ⟨gl, hc⟩ := append_any h.down h.pend h.ok hj (by omega) (by omega) h.dead (b := b) (by omega) (by omega) (by omega) (size := size) (T := T) (by omega) (by omega)
    rw [hjb, hjq, hgn] at hc
    rcases hc with ⟨c1, c2, c3, c4, c5⟩ | ⟨c1, c2, c3, c4⟩
    · refine .inl ⟨c1, c2, c3, kA, gl.trans hgo, ?_, ?_, ?_, ?_, ?_, ?_, ?_, ?_, ?_⟩
      · rw [c4]; exact hbs
      · rw [c4]; exact hsz
      · rw [c4]
      · rw [c4]; exact ⟨hrd.1, by show J.round ≤ _; omega⟩
      · rw [c4]; show J.tail + (partsN b.length : Int) = ((T + partsN b.length : Nat) : Int); omega
      · rw [c4]; show J.seq + 1 = (((want ++ [b]).length : Nat) : Int); rw [List.length_append]; show J.seq + 1 = ((want.length + 1 : Nat) : Int); omega
      · rw [c4]; exact h.dead
      · rw [c4]
        exact h.ji.app h0 hg (by omega) (by omega) (by omega) (by omega) (by rw [readsD_len]; omega) c5
      · rw [List.length_append]; show want.length + 1 ≤ _; omega
    · refine .inr (.inr ⟨c1, c2, by rw [c3], by rw [c3, ← hgn]; exact ⟨hj.base, hj.size, hj.gen, hj.round, hj.tail, hj.seq⟩, kA, fun keep => ?_⟩)
      obtain ⟨w2, T2, hw, hji, hle⟩ := h.ji.crash h0 hg (by omega) (by omega) (by omega) (by omega) (by rw [readsD_len]; omega) (c4 keep)
      have rok := restartD_ok kA keep
      have hgl : (restartD (appendJ d J b).1.1 keep).good.length = 60 := by
        show (settleL _ 0 _ _).length = 60
        rw [settleL_len]; exact gl.trans hgo
      have hO := open_up (d := restartD (appendJ d J b).1.1 keep) rfl hgl h1 h2 h0 hji (by omega)
      refine ⟨w2, T2, _, hw, hO, ⟨rfl, rfl, rok, hgl, rfl, rfl, rfl, ⟨by show 1 ≤ roundOf _ _ + 1; omega, by show roundOf _ _ + 1 ≤ _; omega⟩, rfl, rfl, rfl, hji, ?_⟩⟩
      rcases hw with rfl | rfl
      · omega
      · rw [List.length_append]; show want.length + 1 ≤ _; omega
  · have e : appendJ d J b = ((d, J), 18) := by
      unfold appendJ
      rw [if_neg (by omega), h.dead, if_neg (by decide), if_pos (by omega)]
    rw [e]
    exact .inr (.inl ⟨rfl, rfl, by omega⟩)
end
theorem new_read (n : Nat) (i : Int) : (readD (newDS n) i).1 = List.replicate 64 0 ∨ (readD (newDS n) i).1 = [] := by
  have hs : readS (newDS n) i = Sec.z := by
    unfold readS newDS
    show ((List.replicate n Sec.z)[i.toNat]?).getD Sec.z = Sec.z
    rw [List.getElem?_replicate]
    split <;> rfl
  unfold readD
  rw [hs]
  split
  · exact .inl rfl
  · exact .inr rfl
theorem new_blank {size gen : Nat} : ∀ s ∈ readsD (newDS 60) 0 size, ¬ mg gen s := fun s hs hm => by
  unfold readsD at hs
  obtain ⟨i, _, rfl⟩ := List.mem_map.1 hs
  rcases new_read 60 (((0 : Nat) : Int) + (i : Int)) with e | e
  · rw [e] at hm
    have : (0 : Nat) = 197 := hm.2.1
    omega
  · rw [e] at hm
    exact nil_mg gen hm
theorem CS.new {size gen : Nat} (h1 : 1 ≤ size) (h2 : size ≤ 60) (h0 : gen ≠ 0) (hg : gen < 4294967296) : ∃ J, openK (newDS 60) 0 size gen = (some J, [], 0) ∧ CS (newDS 60) J [] gen size 0 0 := by
  have hji : JI (readsD (newDS 60) 0 size) gen 0 [] 0 := JI.blank hg new_blank
  have hgl : (newDS 60).good.length = 60 := by simp [newDS]
  refine ⟨_, open_up (d := newDS 60) rfl hgl h1 h2 h0 hji (by decide), ⟨rfl, rfl, newDS_ok (by decide) (by decide), hgl, rfl, rfl, rfl, ⟨?_, ?_⟩, rfl, rfl, rfl, hji.re, Nat.le_refl _⟩⟩
  · show 1 ≤ roundOf _ _ + 1; omega
  · show roundOf _ _ + 1 ≤ 0 + 1; have := hji.le; omega
end Go.Proofs.Ytidijnfkcpbkiaa
