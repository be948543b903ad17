/- Snapshot: predicates. -/
import Derived.Test.YtidijnfkcpbkiaaZC
set_option linter.unusedVariables false
set_option linter.unusedSimpArgs false
set_option maxRecDepth 100000
set_option maxHeartbeats 4000000
namespace Go.Proofs.Ytidijnfkcpbkiaa
open Go Go.Mx Go.Proofs
/-- snapshot.which -/
def snapshot_which.M (n1 : Int) (R : Value → World → Prop) (w : World) : Prop :=
 R (.int .i64 (IntKind.i64.wrap ((BitVec.ofInt (IntKind.bits .i64) (IntKind.i64.wrap (IntKind.u32.wrap (n1 + 1))) &&& BitVec.ofInt (IntKind.bits .i64) 1).toNat))) w

theorem snapshot_which.eq (n1 : Int) (R : Value → World → Prop) (w : World) : mfunc Try.prog [] 35 [.int .u32 n1] R w = snapshot_which.M n1 R w := by kernel_rfl
theorem snapshot_which.ok (n1 : Int) {R : Value → World → Prop} {w : World} (h : snapshot_which.M n1 R w) : Calls Try.prog 35 #[.int .u32 n1] w fun e w' => ∃ v, e = .returned v ∧ R v w' :=
  mfunc_ok follows (H := []) (args := [.int .u32 n1]) (by rw [snapshot_which.eq]; exact h)

def snapshot_which.N (n1 : Int) (R : Value → World → Prop) (w : World) : Prop :=
 (-9223372036854775808 : Int) ≤ (IntKind.u32.wrap (n1 + 1)) ∧ (IntKind.u32.wrap (n1 + 1)) < 9223372036854775808 ∧
 R (.int .i64 (IntKind.i64.wrap ((BitVec.ofInt (IntKind.bits .i64) (IntKind.u32.wrap (n1 + 1)) &&& BitVec.ofInt (IntKind.bits .i64) 1).toNat))) w

theorem snapshot_which.up (n1 : Int) {R : Value → World → Prop} {w : World} (h : snapshot_which.N n1 R w) : snapshot_which.M n1 R w := by
  unfold snapshot_which.M
  unfold snapshot_which.N at h
  obtain ⟨a0, a1, h⟩ := h
  try rw [w64 a0 a1]
  exact h

theorem snapshot_which.go (n1 : Int) {R : Value → World → Prop} {w : World} (h : snapshot_which.N n1 R w) : Calls Try.prog 35 #[.int .u32 n1] w fun e w' => ∃ v, e = .returned v ∧ R v w' := snapshot_which.ok n1 (snapshot_which.up n1 h)
theorem snapshot_which.run (n1 : Int) {V : Value} {Q : World → Prop} {w : World} (h : snapshot_which.N n1 (fun v w' => v = V ∧ Q w') w) : Calls Try.prog 35 #[.int .u32 n1] w (Ret V Q) := (snapshot_which.go n1 h).mono fun e w' ⟨v, he, hv, hq⟩ => ⟨by rw [he, hv], hq⟩

/-- snapshot.head -/
def snapshot_head.M (n1 : Int) (R : Value → World → Prop) (w : World) : Prop :=
 ∃ (a1 : Option Addr) (a2 : Nat) (ac : Nat) (af : World), (Instr.makeSlice 30 (.int .i64 64) (.int .i64 64)).run Try.prog w = .ok (.slice a1 a2 ac) af ∧
 ∃ (I0 : Nat → List Value → World → Prop) (m5 : Nat), I0 m5 [.int .i64 0] af ∧ ∀ (m6 : Nat) (a0 : World) (t4 : Int), I0 m6 [.int .i64 t4] a0 →
 bif decide (t4 < 4) then (
 0 ≤ (t4 : Int) ∧ (t4 : Int) < (4 : Int) ∧
 ((t4 : Int) = 0 → 
 0 ≤ (24 : Int) ∧
 a1.elim False fun a8 =>
 0 ≤ ((IntKind.i64.wrap ((1 : Int) + t4)) : Int) ∧ ((IntKind.i64.wrap ((1 : Int) + t4)) : Int) < (a2 : Int) ∧
 canStore a0 ((a8.add (Int.toNat (IntKind.i64.wrap ((1 : Int) + t4)) * 1)).add 0) ∧
 thenW (a0.setCell ((a8.add (Int.toNat (IntKind.i64.wrap ((1 : Int) + t4)) * 1)).add 0) (.int .u8 (IntKind.u8.wrap (Int.fdiv n1 (2 ^ (min (Int.toNat 24) (IntKind.bits .u32))))))) fun ai =>
 ∃ ae, ae < m6 ∧ I0 ae [.int .i64 (IntKind.i64.wrap (t4 + 1))] ai) ∧
 ((t4 : Int) = 1 → 
 0 ≤ (16 : Int) ∧
 a1.elim False fun aa =>
 0 ≤ ((IntKind.i64.wrap ((1 : Int) + t4)) : Int) ∧ ((IntKind.i64.wrap ((1 : Int) + t4)) : Int) < (a2 : Int) ∧
 canStore a0 ((aa.add (Int.toNat (IntKind.i64.wrap ((1 : Int) + t4)) * 1)).add 0) ∧
 thenW (a0.setCell ((aa.add (Int.toNat (IntKind.i64.wrap ((1 : Int) + t4)) * 1)).add 0) (.int .u8 (IntKind.u8.wrap (Int.fdiv n1 (2 ^ (min (Int.toNat 16) (IntKind.bits .u32))))))) fun a3 =>
 ∃ ab, ab < m6 ∧ I0 ab [.int .i64 (IntKind.i64.wrap (t4 + 1))] a3) ∧
 ((t4 : Int) = 2 → 
 0 ≤ (8 : Int) ∧
 a1.elim False fun a9 =>
 0 ≤ ((IntKind.i64.wrap ((1 : Int) + t4)) : Int) ∧ ((IntKind.i64.wrap ((1 : Int) + t4)) : Int) < (a2 : Int) ∧
 canStore a0 ((a9.add (Int.toNat (IntKind.i64.wrap ((1 : Int) + t4)) * 1)).add 0) ∧
 thenW (a0.setCell ((a9.add (Int.toNat (IntKind.i64.wrap ((1 : Int) + t4)) * 1)).add 0) (.int .u8 (IntKind.u8.wrap (Int.fdiv n1 (2 ^ (min (Int.toNat 8) (IntKind.bits .u32))))))) fun a5 =>
 ∃ ag, ag < m6 ∧ I0 ag [.int .i64 (IntKind.i64.wrap (t4 + 1))] a5) ∧
 ((t4 : Int) = 3 → 
 0 ≤ (0 : Int) ∧
 a1.elim False fun ah =>
 0 ≤ ((IntKind.i64.wrap ((1 : Int) + t4)) : Int) ∧ ((IntKind.i64.wrap ((1 : Int) + t4)) : Int) < (a2 : Int) ∧
 canStore a0 ((ah.add (Int.toNat (IntKind.i64.wrap ((1 : Int) + t4)) * 1)).add 0) ∧
 thenW (a0.setCell ((ah.add (Int.toNat (IntKind.i64.wrap ((1 : Int) + t4)) * 1)).add 0) (.int .u8 (IntKind.u8.wrap (Int.fdiv n1 (2 ^ (min (Int.toNat 0) (IntKind.bits .u32))))))) fun a6 =>
 ∃ ad, ad < m6 ∧ I0 ad [.int .i64 (IntKind.i64.wrap (t4 + 1))] a6) ∧ True) else (
 a1.elim False fun a7 =>
 0 ≤ (0 : Int) ∧ (0 : Int) < (a2 : Int) ∧
 canStore a0 ((a7.add (Int.toNat 0 * 1)).add 0) ∧
 thenW (a0.setCell ((a7.add (Int.toNat 0 * 1)).add 0) (.int .u8 94)) fun a4 =>
 R (.slice a1 a2 ac) a4)

theorem snapshot_head.eq (n1 : Int) (R : Value → World → Prop) (w : World) : mfunc Try.prog [(0, [0, 3, 7], [(8, (.one (.int .i64)))])] 36 [.int .u32 n1] R w = snapshot_head.M n1 R w := by kernel_rfl
theorem snapshot_head.ok (n1 : Int) {R : Value → World → Prop} {w : World} (h : snapshot_head.M n1 R w) : Calls Try.prog 36 #[.int .u32 n1] w fun e w' => ∃ v, e = .returned v ∧ R v w' :=
  mfunc_ok follows (H := [(0, [0, 3, 7], [(8, (.one (.int .i64)))])]) (args := [.int .u32 n1]) (by rw [snapshot_head.eq]; exact h)

def snapshot_head.N (n1 : Int) (R : Value → World → Prop) (w : World) : Prop :=
 ∃ (a1 : Option Addr) (a2 : Nat) (ah : Nat) (ai : World), (Instr.makeSlice 30 (.int .i64 64) (.int .i64 64)).run Try.prog w = .ok (.slice a1 a2 ah) ai ∧
 ∃ (I0 : Nat → List Value → World → Prop) (m5 : Nat), I0 m5 [.int .i64 0] ai ∧ ∀ (m6 : Nat) (a0 : World) (t4 : Int), I0 m6 [.int .i64 t4] a0 →
 (t4 < 4 →
 0 ≤ (t4 : Int) ∧ (t4 : Int) < (4 : Int) ∧
 ((t4 : Int) = 0 →
 (-9223372036854775808 : Int) ≤ ((1 : Int) + t4) ∧ ((1 : Int) + t4) < 9223372036854775808 ∧
 ∃ a9 : Addr, a1 = some a9 ∧
 0 ≤ (((1 : Int) + t4) : Int) ∧ (((1 : Int) + t4) : Int) < (a2 : Int) ∧
 canStore a0 ((a9.add (Int.toNat ((1 : Int) + t4) * 1)).add 0) ∧
 thenW (a0.setCell ((a9.add (Int.toNat ((1 : Int) + t4) * 1)).add 0) (.int .u8 (IntKind.u8.wrap (n1 / 16777216)))) fun ac =>
 (-9223372036854775808 : Int) ≤ (t4 + 1) ∧ (t4 + 1) < 9223372036854775808 ∧
 ∃ ad, ad < m6 ∧ I0 ad [.int .i64 (t4 + 1)] ac) ∧
 ((t4 : Int) = 1 →
 (-9223372036854775808 : Int) ≤ ((1 : Int) + t4) ∧ ((1 : Int) + t4) < 9223372036854775808 ∧
 ∃ a8 : Addr, a1 = some a8 ∧
 0 ≤ (((1 : Int) + t4) : Int) ∧ (((1 : Int) + t4) : Int) < (a2 : Int) ∧
 canStore a0 ((a8.add (Int.toNat ((1 : Int) + t4) * 1)).add 0) ∧
 thenW (a0.setCell ((a8.add (Int.toNat ((1 : Int) + t4) * 1)).add 0) (.int .u8 (IntKind.u8.wrap (n1 / 65536)))) fun ab =>
 (-9223372036854775808 : Int) ≤ (t4 + 1) ∧ (t4 + 1) < 9223372036854775808 ∧
 ∃ ae, ae < m6 ∧ I0 ae [.int .i64 (t4 + 1)] ab) ∧
 ((t4 : Int) = 2 →
 (-9223372036854775808 : Int) ≤ ((1 : Int) + t4) ∧ ((1 : Int) + t4) < 9223372036854775808 ∧
 ∃ a4 : Addr, a1 = some a4 ∧
 0 ≤ (((1 : Int) + t4) : Int) ∧ (((1 : Int) + t4) : Int) < (a2 : Int) ∧
 canStore a0 ((a4.add (Int.toNat ((1 : Int) + t4) * 1)).add 0) ∧
 thenW (a0.setCell ((a4.add (Int.toNat ((1 : Int) + t4) * 1)).add 0) (.int .u8 (IntKind.u8.wrap (n1 / 256)))) fun a3 =>
 (-9223372036854775808 : Int) ≤ (t4 + 1) ∧ (t4 + 1) < 9223372036854775808 ∧
 ∃ af, af < m6 ∧ I0 af [.int .i64 (t4 + 1)] a3) ∧
 ((t4 : Int) = 3 →
 (-9223372036854775808 : Int) ≤ ((1 : Int) + t4) ∧ ((1 : Int) + t4) < 9223372036854775808 ∧
 ∃ a6 : Addr, a1 = some a6 ∧
 0 ≤ (((1 : Int) + t4) : Int) ∧ (((1 : Int) + t4) : Int) < (a2 : Int) ∧
 canStore a0 ((a6.add (Int.toNat ((1 : Int) + t4) * 1)).add 0) ∧
 thenW (a0.setCell ((a6.add (Int.toNat ((1 : Int) + t4) * 1)).add 0) (.int .u8 (IntKind.u8.wrap (n1 / 1)))) fun aa =>
 (-9223372036854775808 : Int) ≤ (t4 + 1) ∧ (t4 + 1) < 9223372036854775808 ∧
 ∃ ag, ag < m6 ∧ I0 ag [.int .i64 (t4 + 1)] aa)) ∧
 ((4 : Int) ≤ t4 →
 ∃ a5 : Addr, a1 = some a5 ∧
 (0 : Int) < (a2 : Int) ∧
 canStore a0 ((a5.add (Int.toNat 0 * 1)).add 0) ∧
 thenW (a0.setCell ((a5.add (Int.toNat 0 * 1)).add 0) (.int .u8 94)) fun a7 =>
 R (.slice a1 a2 ah) a7)

theorem snapshot_head.up (n1 : Int) {R : Value → World → Prop} {w : World} (h : snapshot_head.N n1 R w) : snapshot_head.M n1 R w := by
  unfold snapshot_head.M
  unfold snapshot_head.N at h
  obtain ⟨ah, am, ad, ap, hr, h⟩ := h
  refine ⟨ah, am, ad, ap, hr, ?_⟩
  obtain ⟨I0, m5, h0, h⟩ := h
  refine ⟨I0, m5, h0, fun m6 ag t4 hI => ?_⟩
  have h := h m6 ag t4 hI
  refine bif_of (fun c8 => ?_) (fun c8 => ?_)
  · have h := h.1 (of_decide_eq_true c8)
    obtain ⟨a3, a2, h⟩ := h
    refine ⟨a3, a2, ?_⟩
    refine ⟨fun hk => ?_, fun hk => ?_, fun hk => ?_, fun hk => ?_, trivial⟩
    · have h := h.1 hk
      obtain ⟨a1, a0, h⟩ := h
      try rw [w64 a1 a0]
      refine ⟨by decide, ?_⟩
      try rw [show (2 ^ (min (Int.toNat 24) (IntKind.bits .u32)) : Int) = 16777216 from rfl]
      try rw [Int.fdiv_eq_ediv_of_nonneg n1 (by decide : (0 : Int) ≤ 16777216)]
      obtain ⟨a9, ar, h⟩ := h
      refine elim_some ar ?_
      obtain ⟨a3, a2, h⟩ := h
      refine ⟨a3, a2, ?_⟩
      obtain ⟨hcs, h⟩ := h
      refine ⟨hcs, thenW_in fun an aj => ?_⟩
      replace h := thenW_out h aj
      obtain ⟨a1, a0, h⟩ := h
      try rw [w64 a1 a0]
      obtain ⟨ai, hk, h⟩ := h
      exact ⟨ai, hk, h⟩
    · have h := h.2.1 hk
      obtain ⟨a1, a0, h⟩ := h
      try rw [w64 a1 a0]
      refine ⟨by decide, ?_⟩
      try rw [show (2 ^ (min (Int.toNat 16) (IntKind.bits .u32)) : Int) = 65536 from rfl]
      try rw [Int.fdiv_eq_ediv_of_nonneg n1 (by decide : (0 : Int) ≤ 65536)]
      obtain ⟨aw, a4, h⟩ := h
      refine elim_some a4 ?_
      obtain ⟨a3, a2, h⟩ := h
      refine ⟨a3, a2, ?_⟩
      obtain ⟨hcs, h⟩ := h
      refine ⟨hcs, thenW_in fun aq ab => ?_⟩
      replace h := thenW_out h ab
      obtain ⟨a1, a0, h⟩ := h
      try rw [w64 a1 a0]
      obtain ⟨a8, hk, h⟩ := h
      exact ⟨a8, hk, h⟩
    · have h := h.2.2.1 hk
      obtain ⟨a1, a0, h⟩ := h
      try rw [w64 a1 a0]
      refine ⟨by decide, ?_⟩
      try rw [show (2 ^ (min (Int.toNat 8) (IntKind.bits .u32)) : Int) = 256 from rfl]
      try rw [Int.fdiv_eq_ediv_of_nonneg n1 (by decide : (0 : Int) ≤ 256)]
      obtain ⟨ax, a6, h⟩ := h
      refine elim_some a6 ?_
      obtain ⟨a3, a2, h⟩ := h
      refine ⟨a3, a2, ?_⟩
      obtain ⟨hcs, h⟩ := h
      refine ⟨hcs, thenW_in fun ao au => ?_⟩
      replace h := thenW_out h au
      obtain ⟨a1, a0, h⟩ := h
      try rw [w64 a1 a0]
      obtain ⟨aa, hk, h⟩ := h
      exact ⟨aa, hk, h⟩
    · have h := h.2.2.2 hk
      obtain ⟨a1, a0, h⟩ := h
      try rw [w64 a1 a0]
      refine ⟨by decide, ?_⟩
      try rw [show (2 ^ (min (Int.toNat 0) (IntKind.bits .u32)) : Int) = 1 from rfl]
      try rw [Int.fdiv_eq_ediv_of_nonneg n1 (by decide : (0 : Int) ≤ 1)]
      obtain ⟨ay, a5, h⟩ := h
      refine elim_some a5 ?_
      obtain ⟨a3, a2, h⟩ := h
      refine ⟨a3, a2, ?_⟩
      obtain ⟨hcs, h⟩ := h
      refine ⟨hcs, thenW_in fun ae ak => ?_⟩
      replace h := thenW_out h ak
      obtain ⟨a1, a0, h⟩ := h
      try rw [w64 a1 a0]
      obtain ⟨ac, hk, h⟩ := h
      exact ⟨ac, hk, h⟩
  · have h := h.2 (Int.not_lt.1 (of_decide_eq_false c8))
    obtain ⟨av, a7, h⟩ := h
    refine elim_some a7 ?_
    obtain ⟨a2, h⟩ := h
    refine ⟨by decide, a2, ?_⟩
    obtain ⟨hcs, h⟩ := h
    refine ⟨hcs, thenW_in fun al af => ?_⟩
    replace h := thenW_out h af
    exact h

theorem snapshot_head.go (n1 : Int) {R : Value → World → Prop} {w : World} (h : snapshot_head.N n1 R w) : Calls Try.prog 36 #[.int .u32 n1] w fun e w' => ∃ v, e = .returned v ∧ R v w' := snapshot_head.ok n1 (snapshot_head.up n1 h)
/-- slices.Equal[[]byte,byte] -/
def slices_Equal_byte_byte.M (a9 : Option Addr) (a2 : Nat) (aa : Nat) (a6 : Option Addr) (a3 : Nat) (ab : Nat) (R : Value → World → Prop) (w : World) : Prop :=
 bif (a2 : Int) != (a3 : Int) then (
 R (.bool false) w) else (
 ∃ (I0 : Nat → List Value → World → Prop) (m4 : Nat), I0 m4 [.int .i64 0] w ∧ ∀ (m5 : Nat) (a1 : World) (t3 : Int), I0 m5 [.int .i64 t3] a1 →
 bif decide (t3 < (a2 : Int)) then (
 thenW (a1.drew) fun a0 =>
 a9.elim False fun a8 =>
 0 ≤ (t3 : Int) ∧ (t3 : Int) < (a2 : Int) ∧
 ∃ (x9 : Int), a0.cell? (a8.add (Int.toNat t3 * 1)) = some (.int .u8 x9) ∧
 a6.elim False fun a7 =>
 0 ≤ (t3 : Int) ∧ (t3 : Int) < (a3 : Int) ∧
 ∃ (a5 : Int), a0.cell? (a7.add (Int.toNat t3 * 1)) = some (.int .u8 a5) ∧
 bif x9 != a5 then (
 R (.bool false) a0) else (
 ∃ a4, a4 < m5 ∧ I0 a4 [.int .i64 (IntKind.i64.wrap (t3 + 1))] a0)) else (
 R (.bool true) a1))

theorem slices_Equal_byte_byte.eq (s1a : Option Addr) (s1n : Nat) (s1c : Nat) (s2a : Option Addr) (s2n : Nat) (s2c : Nat) (R : Value → World → Prop) (w : World) : mfunc Try.prog [(0, [0, 1, 12], [(13, (.one (.int .i64)))])] 49 [.slice s1a s1n s1c, .slice s2a s2n s2c] R w = slices_Equal_byte_byte.M s1a s1n s1c s2a s2n s2c R w := by kernel_rfl
theorem slices_Equal_byte_byte.ok (a5 : Option Addr) (a1 : Nat) (a2 : Nat) (a0 : Option Addr) (a4 : Nat) (a3 : Nat) {R : Value → World → Prop} {w : World} (h : slices_Equal_byte_byte.M a5 a1 a2 a0 a4 a3 R w) : Calls Try.prog 49 #[.slice a5 a1 a2, .slice a0 a4 a3] w fun e w' => ∃ v, e = .returned v ∧ R v w' :=
  mfunc_ok follows (H := [(0, [0, 1, 12], [(13, (.one (.int .i64)))])]) (args := [.slice a5 a1 a2, .slice a0 a4 a3]) (by rw [slices_Equal_byte_byte.eq]; exact h)

def slices_Equal_byte_byte.N (aa : Option Addr) (a1 : Nat) (ab : Nat) (a9 : Option Addr) (a3 : Nat) (ac : Nat) (R : Value → World → Prop) (w : World) : Prop :=
 ((a1 : Int) ≠ (a3 : Int) →
 R (.bool false) w) ∧
 ((a1 : Int) = (a3 : Int) →
 ∃ (I0 : Nat → List Value → World → Prop) (m5 : Nat), I0 m5 [.int .i64 0] w ∧ ∀ (m6 : Nat) (a0 : World) (t4 : Int), I0 m6 [.int .i64 t4] a0 →
 (t4 < (a1 : Int) →
 ∃ a8 : Addr, aa = some a8 ∧
 0 ≤ (t4 : Int) ∧ (t4 : Int) < (a1 : Int) ∧
 ∃ (a4 : Int), a0.cell? (a8.add (Int.toNat t4 * 1)) = some (.int .u8 a4) ∧
 ∃ a6 : Addr, a9 = some a6 ∧
 0 ≤ (t4 : Int) ∧ (t4 : Int) < (a3 : Int) ∧
 ∃ (a5 : Int), a0.cell? (a6.add (Int.toNat t4 * 1)) = some (.int .u8 a5) ∧
 (a4 ≠ a5 →
 ∀ (a2 : World), Ext no a0 a2 →
 R (.bool false) a2) ∧
 (a4 = a5 →
 (-9223372036854775808 : Int) ≤ (t4 + 1) ∧ (t4 + 1) < 9223372036854775808 ∧
 ∀ (a2 : World), Ext no a0 a2 →
 ∃ a7, a7 < m6 ∧ I0 a7 [.int .i64 (t4 + 1)] a2)) ∧
 ((a1 : Int) ≤ t4 →
 R (.bool true) a0))

theorem slices_Equal_byte_byte.up (ad : Option Addr) (a8 : Nat) (ab : Nat) (ae : Option Addr) (a9 : Nat) (ac : Nat) {R : Value → World → Prop} {w : World} (h : slices_Equal_byte_byte.N ad a8 ab ae a9 ac R w) : slices_Equal_byte_byte.M ad a8 ab ae a9 ac R w := by
  unfold slices_Equal_byte_byte.M
  unfold slices_Equal_byte_byte.N at h
  refine bif_of (fun c3 => ?_) (fun c3 => ?_)
  · have h := h.1 (bne_t c3)
    exact h
  · have h := h.2 (bne_f c3)
    obtain ⟨I0, m5, h0, h⟩ := h
    refine ⟨I0, m5, h0, fun m6 aa t4 hI => ?_⟩
    have h := h m6 aa t4 hI
    refine bif_of (fun c8 => ?_) (fun c8 => ?_)
    · have h := h.1 (of_decide_eq_true c8)
      refine thenW_in fun af e9 => ?_
      have a0 := (Ext.refl no aa).x_drew e9
      obtain ⟨am, a4, h⟩ := h
      refine elim_some a4 ?_
      obtain ⟨a6, a2, h⟩ := h
      refine ⟨a6, a2, ?_⟩
      obtain ⟨ak, a7, h⟩ := h
      refine ⟨ak, (a0).cell a7 id, ?_⟩
      obtain ⟨al, a1, h⟩ := h
      refine elim_some a1 ?_
      obtain ⟨a6, a2, h⟩ := h
      refine ⟨a6, a2, ?_⟩
      obtain ⟨aj, a5, h⟩ := h
      refine ⟨aj, (a0).cell a5 id, ?_⟩
      refine bif_of (fun a3 => ?_) (fun a3 => ?_)
      · have h := h.1 (bne_t a3)
        have h := h af a0
        exact h
      · have h := h.2 (bne_f a3)
        obtain ⟨ai, ah, h⟩ := h
        try rw [w64 ai ah]
        have h := h af a0
        obtain ⟨ag, hk, h⟩ := h
        exact ⟨ag, hk, h⟩
    · have h := h.2 (Int.not_lt.1 (of_decide_eq_false c8))
      exact h

theorem slices_Equal_byte_byte.go (a5 : Option Addr) (a1 : Nat) (a2 : Nat) (a0 : Option Addr) (a4 : Nat) (a3 : Nat) {R : Value → World → Prop} {w : World} (h : slices_Equal_byte_byte.N a5 a1 a2 a0 a4 a3 R w) : Calls Try.prog 49 #[.slice a5 a1 a2, .slice a0 a4 a3] w fun e w' => ∃ v, e = .returned v ∧ R v w' := slices_Equal_byte_byte.ok a5 a1 a2 a0 a4 a3 (slices_Equal_byte_byte.up a5 a1 a2 a0 a4 a3 h)
theorem slices_Equal_byte_byte.run (a5 : Option Addr) (a1 : Nat) (a2 : Nat) (a0 : Option Addr) (a4 : Nat) (a3 : Nat) {V : Value} {Q : World → Prop} {w : World} (h : slices_Equal_byte_byte.N a5 a1 a2 a0 a4 a3 (fun v w' => v = V ∧ Q w') w) : Calls Try.prog 49 #[.slice a5 a1 a2, .slice a0 a4 a3] w (Ret V Q) := (slices_Equal_byte_byte.go a5 a1 a2 a0 a4 a3 h).mono fun e w' ⟨v, he, hv, hq⟩ => ⟨by rw [he, hv], hq⟩

/-- snapshot.number -/
def snapshot_number.M (a0 : Nat) (ac : Array Value) (ae : Array Value) (i2 : Int) (R : Value → World → Prop) (w : World) : Prop :=
 bif enters Try.prog a0 then Calls Try.prog a0 (ac.toList ++ ([.int .i64 i2] : List Value) ++ ae.toList).toArray w (fun ba az => ∃ (ag : Option Addr) (aj : Nat) (af : Nat) (r4 : Int), ba = .returned (.tuple #[.slice ag aj af, .int .i64 r4]) ∧
 bif r4 != 0 then (
 R (.int .u32 0) az) else (
 (0 : Int) ≤ (5 : Int) ∧ (5 : Int) ≤ (af : Int) ∧ (0 : Int) ≤ (1 : Int) ∧ (1 : Int) ≤ (5 : Int) ∧
 ∃ (I0 : Nat → List Value → World → Prop) (b9 : Nat), I0 b9 [.int .u32 0, .int .i64 0] az ∧ ∀ (b1 : Nat) (ab : World) (n8 : Int) (t9 : Int), I0 b1 [.int .u32 n8, .int .i64 t9] ab →
 bif decide (t9 < (((Int.toNat 5) - (Int.toNat 1) : Nat) : Int)) then (
 (if af = Int.toNat 1 then ag else Option.map (fun z : Addr => z.add ((Int.toNat 1) * 1)) ag).elim False fun b7 =>
 0 ≤ (t9 : Int) ∧ (t9 : Int) < (((Int.toNat 5) - (Int.toNat 1) : Nat) : Int) ∧
 ∃ (b5 : Int), ab.cell? (b7.add (Int.toNat t9 * 1)) = some (.int .u8 b5) ∧
 0 ≤ (8 : Int) ∧
 ∃ b3, b3 < b1 ∧ I0 b3 [.int .u32 (IntKind.u32.wrap ((BitVec.ofInt (IntKind.bits .u32) (IntKind.u32.wrap (n8 * 2 ^ (min (Int.toNat 8) (IntKind.bits .u32)))) ||| BitVec.ofInt (IntKind.bits .u32) (IntKind.u32.wrap b5)).toNat)), .int .i64 (IntKind.i64.wrap (t9 + 1))] ab) else (
 bif n8 == 0 then (
 R (.int .u32 0) ab) else (
 Calls Try.prog 35 #[.int .u32 n8] ab fun aw an => ∃ (a2 : Int), aw = .returned (.int .i64 a2) ∧
 bif a2 != i2 then (
 R (.int .u32 0) an) else (
 Calls Try.prog 36 #[.int .u32 n8] an fun av ao => ∃ (a8 : Option Addr) (a9 : Nat) (aa : Nat), av = .returned (.slice a8 a9 aa) ∧
 Calls Try.prog 49 #[.slice a8 a9 aa, .slice ag aj af] ao fun ar ak => ∃ (a4 : Bool), ar = .returned (.bool a4) ∧
 bif !a4 then (
 R (.int .u32 0) ak) else (
 R (.int .u32 n8) ak)))))) else (∃ (ag : Option Addr) (aj : Nat) (af : Nat) (r4 : Int) (aq : World), (externCall a0 (ac.toList ++ ([.int .i64 i2] : List Value) ++ ae.toList).toArray).run Try.prog w = .ok (.tuple #[.slice ag aj af, .int .i64 r4]) aq ∧
 bif r4 != 0 then (
 R (.int .u32 0) aq) else (
 (0 : Int) ≤ (5 : Int) ∧ (5 : Int) ≤ (af : Int) ∧ (0 : Int) ≤ (1 : Int) ∧ (1 : Int) ≤ (5 : Int) ∧
 ∃ (I0 : Nat → List Value → World → Prop) (b6 : Nat), I0 b6 [.int .u32 0, .int .i64 0] aq ∧ ∀ (b4 : Nat) (ad : World) (ai : Int) (ah : Int), I0 b4 [.int .u32 ai, .int .i64 ah] ad →
 bif decide (ah < (((Int.toNat 5) - (Int.toNat 1) : Nat) : Int)) then (
 (if af = Int.toNat 1 then ag else Option.map (fun z : Addr => z.add ((Int.toNat 1) * 1)) ag).elim False fun b8 =>
 0 ≤ (ah : Int) ∧ (ah : Int) < (((Int.toNat 5) - (Int.toNat 1) : Nat) : Int) ∧
 ∃ (b0 : Int), ad.cell? (b8.add (Int.toNat ah * 1)) = some (.int .u8 b0) ∧
 0 ≤ (8 : Int) ∧
 ∃ b2, b2 < b4 ∧ I0 b2 [.int .u32 (IntKind.u32.wrap ((BitVec.ofInt (IntKind.bits .u32) (IntKind.u32.wrap (ai * 2 ^ (min (Int.toNat 8) (IntKind.bits .u32)))) ||| BitVec.ofInt (IntKind.bits .u32) (IntKind.u32.wrap b0)).toNat)), .int .i64 (IntKind.i64.wrap (ah + 1))] ad) else (
 bif ai == 0 then (
 R (.int .u32 0) ad) else (
 Calls Try.prog 35 #[.int .u32 ai] ad fun ax al => ∃ (a3 : Int), ax = .returned (.int .i64 a3) ∧
 bif a3 != i2 then (
 R (.int .u32 0) al) else (
 Calls Try.prog 36 #[.int .u32 ai] al fun au ap => ∃ (a5 : Option Addr) (a6 : Nat) (a7 : Nat), au = .returned (.slice a5 a6 a7) ∧
 Calls Try.prog 49 #[.slice a5 a6 a7, .slice ag aj af] ap fun ay am => ∃ (a1 : Bool), ay = .returned (.bool a1) ∧
 bif !a1 then (
 R (.int .u32 0) am) else (
 R (.int .u32 ai) am))))))

theorem snapshot_number.eq (read1k : Nat) (read1f : Array Value) (read1g : Array Value) (i2 : Int) (R : Value → World → Prop) (w : World) : mfunc Try.prog [(0, [1, 5, 19, 20], [(7, (.one (.int .u32))), (21, (.one (.int .i64)))])] 24 [.func (.func read1k) read1f read1g, .int .i64 i2] R w = snapshot_number.M read1k read1f read1g i2 R w := by kernel_rfl
theorem snapshot_number.ok (a2 : Nat) (a1 : Array Value) (a0 : Array Value) (i2 : Int) {R : Value → World → Prop} {w : World} (h : snapshot_number.M a2 a1 a0 i2 R w) : Calls Try.prog 24 #[.func (.func a2) a1 a0, .int .i64 i2] w fun e w' => ∃ v, e = .returned v ∧ R v w' :=
  mfunc_ok follows (H := [(0, [1, 5, 19, 20], [(7, (.one (.int .u32))), (21, (.one (.int .i64)))])]) (args := [.func (.func a2) a1 a0, .int .i64 i2]) (by rw [snapshot_number.eq]; exact h)

def snapshot_number.N (a6 : Nat) (a7 : Array Value) (a8 : Array Value) (i2 : Int) (R : Value → World → Prop) (w : World) : Prop :=
 enters Try.prog a6 = true ∧ Calls Try.prog a6 (a7.toList ++ ([.int .i64 i2] : List Value) ++ a8.toList).toArray w (fun ao ah => ∃ (ag : Option Addr) (ai : Nat) (ab : Nat) (r4 : Int), ao = .returned (.tuple #[.slice ag ai ab, .int .i64 r4]) ∧
 (r4 ≠ 0 →
 R (.int .u32 0) ah) ∧
 (r4 = 0 →
 (5 : Int) ≤ (ab : Int) ∧ 
 ∃ (I0 : Nat → List Value → World → Prop) (an : Nat), I0 an [.int .u32 0, .int .i64 0] ah ∧ ∀ (ak : Nat) (a5 : World) (n8 : Int) (t9 : Int), I0 ak [.int .u32 n8, .int .i64 t9] a5 →
 (t9 < ((5 - 1 : Nat) : Int) →
 ∃ am : Addr, cutA ag ab 1 1 = some am ∧
 0 ≤ (t9 : Int) ∧ (t9 : Int) < ((5 - 1 : Nat) : Int) ∧
 ∃ (al : Int), a5.cell? (am.add (Int.toNat t9 * 1)) = some (.int .u8 al) ∧
 (-9223372036854775808 : Int) ≤ (t9 + 1) ∧ (t9 + 1) < 9223372036854775808 ∧
 ∃ aj, aj < ak ∧ I0 aj [.int .u32 (IntKind.u32.wrap ((BitVec.ofInt (IntKind.bits .u32) (IntKind.u32.wrap (n8 * 256)) ||| BitVec.ofInt (IntKind.bits .u32) (IntKind.u32.wrap al)).toNat)), .int .i64 (t9 + 1)] a5) ∧
 (((5 - 1 : Nat) : Int) ≤ t9 →
 (n8 = 0 →
 R (.int .u32 0) a5) ∧
 (n8 ≠ 0 →
 Calls Try.prog 35 #[.int .u32 n8] a5 fun af a9 => ∃ (a0 : Int), af = .returned (.int .i64 a0) ∧
 (a0 ≠ i2 →
 R (.int .u32 0) a9) ∧
 (a0 = i2 →
 Calls Try.prog 36 #[.int .u32 n8] a9 fun ad ae => ∃ (a4 : Option Addr) (a2 : Nat) (a3 : Nat), ad = .returned (.slice a4 a2 a3) ∧
 Calls Try.prog 49 #[.slice a4 a2 a3, .slice ag ai ab] ae fun ac aa => ∃ (a1 : Bool), ac = .returned (.bool a1) ∧
 (a1 = false →
 R (.int .u32 0) aa) ∧
 (a1 = true →
 R (.int .u32 n8) aa))))))

theorem snapshot_number.up (a1 : Nat) (a0 : Array Value) (a2 : Array Value) (i2 : Int) {R : Value → World → Prop} {w : World} (h : snapshot_number.N a1 a0 a2 i2 R w) : snapshot_number.M a1 a0 a2 i2 R w := by
  unfold snapshot_number.M
  unfold snapshot_number.N at h
  obtain ⟨hen, h⟩ := h
  refine bif_tt hen ?_
  refine h.mono fun b0 ay h => ?_
  obtain ⟨ax, ag, au, r4, he, h⟩ := h
  refine ⟨ax, ag, au, r4, he, ?_⟩
  refine bif_of (fun c7 => ?_) (fun c7 => ?_)
  · have h := h.1 (bne_t c7)
    exact h
  · have h := h.2 (bne_f c7)
    obtain ⟨af, h⟩ := h
    refine ⟨by decide, af, by decide, by decide, ?_⟩
    obtain ⟨I0, av, h0, h⟩ := h
    refine ⟨I0, av, h0, fun ak a8 n8 t9 hI => ?_⟩
    have h := h ak a8 n8 t9 hI
    refine bif_of (fun ab => ?_) (fun ab => ?_)
    · have h := h.1 (of_decide_eq_true ab)
      obtain ⟨az, ac, h⟩ := h
      refine elim_some ac ?_
      obtain ⟨af, ah, h⟩ := h
      refine ⟨af, ah, ?_⟩
      obtain ⟨aw, ae, h⟩ := h
      refine ⟨aw, ae, ?_⟩
      refine ⟨by decide, ?_⟩
      try rw [show (2 ^ (min (Int.toNat 8) (IntKind.bits .u32)) : Int) = 256 from rfl]
      obtain ⟨aq, al, h⟩ := h
      try rw [w64 aq al]
      obtain ⟨ai, hk, h⟩ := h
      exact ⟨ai, hk, h⟩
    · have h := h.2 (Int.not_lt.1 (of_decide_eq_false ab))
      refine bif_of (fun ad => ?_) (fun ad => ?_)
      · have h := h.1 (beq_t ad)
        exact h
      · have h := h.2 (beq_f ad)
        refine h.mono fun ar aj h => ?_
        obtain ⟨a3, he, h⟩ := h
        refine ⟨a3, he, ?_⟩
        refine bif_of (fun a9 => ?_) (fun a9 => ?_)
        · have h := h.1 (bne_t a9)
          exact h
        · have h := h.2 (bne_f a9)
          refine h.mono fun an ao h => ?_
          obtain ⟨a7, a4, a5, he, h⟩ := h
          refine ⟨a7, a4, a5, he, ?_⟩
          refine h.mono fun am ap h => ?_
          obtain ⟨a6, he, h⟩ := h
          refine ⟨a6, he, ?_⟩
          refine bif_of (fun aa => ?_) (fun aa => ?_)
          · have h := h.1 (not_t aa)
            exact h
          · have h := h.2 (not_f aa)
            exact h

theorem snapshot_number.go (a2 : Nat) (a1 : Array Value) (a0 : Array Value) (i2 : Int) {R : Value → World → Prop} {w : World} (h : snapshot_number.N a2 a1 a0 i2 R w) : Calls Try.prog 24 #[.func (.func a2) a1 a0, .int .i64 i2] w fun e w' => ∃ v, e = .returned v ∧ R v w' := snapshot_number.ok a2 a1 a0 i2 (snapshot_number.up a2 a1 a0 i2 h)
theorem snapshot_number.run (a2 : Nat) (a1 : Array Value) (a0 : Array Value) (i2 : Int) {V : Value} {Q : World → Prop} {w : World} (h : snapshot_number.N a2 a1 a0 i2 (fun v w' => v = V ∧ Q w') w) : Calls Try.prog 24 #[.func (.func a2) a1 a0, .int .i64 i2] w (Ret V Q) := (snapshot_number.go a2 a1 a0 i2 h).mono fun e w' ⟨v, he, hv, hq⟩ => ⟨by rw [he, hv], hq⟩

/-- (*snapshot.Store).base -/
def snapshot_Store_base.M (s1 : Option Addr) (n2 : Int) (R : Value → World → Prop) (w : World) : Prop :=
 thenW (w.drew) fun a3 =>
 s1.elim False fun a4 =>
 ∃ (a0 : Int), a3.cell? (a4.add 1) = some (.int .i64 a0) ∧
 Calls Try.prog 35 #[.int .u32 n2] a3 fun a5 a2 => ∃ (a1 : Int), a5 = .returned (.int .i64 a1) ∧
 a2.cell? (a4.add 1) = some (.int .i64 a0) ∧
 R (.int .i64 (IntKind.i64.wrap ((2 : Int) + (IntKind.i64.wrap (a1 * a0))))) a2

theorem snapshot_Store_base.eq (s1 : Option Addr) (n2 : Int) (R : Value → World → Prop) (w : World) : mfunc Try.prog [] 27 [.pointer s1, .int .u32 n2] R w = snapshot_Store_base.M s1 n2 R w := by kernel_rfl
theorem snapshot_Store_base.ok (s1 : Option Addr) (n2 : Int) {R : Value → World → Prop} {w : World} (h : snapshot_Store_base.M s1 n2 R w) : Calls Try.prog 27 #[.pointer s1, .int .u32 n2] w fun e w' => ∃ v, e = .returned v ∧ R v w' :=
  mfunc_ok follows (H := []) (args := [.pointer s1, .int .u32 n2]) (by rw [snapshot_Store_base.eq]; exact h)

def snapshot_Store_base.N (s1 : Option Addr) (n2 : Int) (R : Value → World → Prop) (w : World) : Prop :=
 ∃ a4 : Addr, s1 = some a4 ∧
 ∃ (a1 : Int), w.cell? (a4.add 1) = some (.int .i64 a1) ∧
 ∀ (a3 : World), Ext no w a3 →
 Calls Try.prog 35 #[.int .u32 n2] a3 fun a5 a2 => ∃ (a0 : Int), a5 = .returned (.int .i64 a0) ∧
 a2.cell? (a4.add 1) = some (.int .i64 a1) ∧
 (-9223372036854775808 : Int) ≤ (a0 * a1) ∧ (a0 * a1) < 9223372036854775808 ∧
 (-9223372036854775808 : Int) ≤ ((2 : Int) + (a0 * a1)) ∧ ((2 : Int) + (a0 * a1)) < 9223372036854775808 ∧
 R (.int .i64 ((2 : Int) + (a0 * a1))) a2

theorem snapshot_Store_base.up (s1 : Option Addr) (n2 : Int) {R : Value → World → Prop} {w : World} (h : snapshot_Store_base.N s1 n2 R w) : snapshot_Store_base.M s1 n2 R w := by
  unfold snapshot_Store_base.M
  unfold snapshot_Store_base.N at h
  refine thenW_in fun a8 e3 => ?_
  have a6 := (Ext.refl no w).x_drew e3
  obtain ⟨a4, a7, h⟩ := h
  refine elim_some a7 ?_
  obtain ⟨a1, a9, h⟩ := h
  refine ⟨a1, (a6).cell a9 id, ?_⟩
  have h := h a8 a6
  refine h.mono fun aa ab h => ?_
  obtain ⟨a0, he, h⟩ := h
  refine ⟨a0, he, ?_⟩
  obtain ⟨a5, h⟩ := h
  refine ⟨a5, ?_⟩
  obtain ⟨a3, a2, h⟩ := h
  try rw [w64 a3 a2]
  obtain ⟨a3, a2, h⟩ := h
  try rw [w64 a3 a2]
  exact h

theorem snapshot_Store_base.go (s1 : Option Addr) (n2 : Int) {R : Value → World → Prop} {w : World} (h : snapshot_Store_base.N s1 n2 R w) : Calls Try.prog 27 #[.pointer s1, .int .u32 n2] w fun e w' => ∃ v, e = .returned v ∧ R v w' := snapshot_Store_base.ok s1 n2 (snapshot_Store_base.up s1 n2 h)
theorem snapshot_Store_base.run (s1 : Option Addr) (n2 : Int) {V : Value} {Q : World → Prop} {w : World} (h : snapshot_Store_base.N s1 n2 (fun v w' => v = V ∧ Q w') w) : Calls Try.prog 27 #[.pointer s1, .int .u32 n2] w (Ret V Q) := (snapshot_Store_base.go s1 n2 h).mono fun e w' ⟨v, he, hv, hq⟩ => ⟨by rw [he, hv], hq⟩

/-- (*snapshot.Store).see -/
def snapshot_Store_see.M (s1 : Option Addr) (k2 : Int) (R : Value → World → Prop) (w : World) : Prop :=
 bif k2 == 19 then (
 s1.elim False fun a3 =>
 canStore w ((a3.add 4).add 0) ∧
 thenW (w.setCell ((a3.add 4).add 0) (.bool true)) fun a0 =>
 R (.int .i64 k2) a0) else (
 R (.int .i64 k2) w)

theorem snapshot_Store_see.eq (s1 : Option Addr) (k2 : Int) (R : Value → World → Prop) (w : World) : mfunc Try.prog [] 38 [.pointer s1, .int .i64 k2] R w = snapshot_Store_see.M s1 k2 R w := by kernel_rfl
theorem snapshot_Store_see.ok (s1 : Option Addr) (k2 : Int) {R : Value → World → Prop} {w : World} (h : snapshot_Store_see.M s1 k2 R w) : Calls Try.prog 38 #[.pointer s1, .int .i64 k2] w fun e w' => ∃ v, e = .returned v ∧ R v w' :=
  mfunc_ok follows (H := []) (args := [.pointer s1, .int .i64 k2]) (by rw [snapshot_Store_see.eq]; exact h)

def snapshot_Store_see.N (s1 : Option Addr) (k2 : Int) (R : Value → World → Prop) (w : World) : Prop :=
 (k2 = 19 →
 ∃ a4 : Addr, s1 = some a4 ∧
 canStore w ((a4.add 4).add 0) ∧
 thenW (w.setCell ((a4.add 4).add 0) (.bool true)) fun a0 =>
 R (.int .i64 k2) a0) ∧
 (k2 ≠ 19 →
 R (.int .i64 k2) w)

theorem snapshot_Store_see.up (s1 : Option Addr) (k2 : Int) {R : Value → World → Prop} {w : World} (h : snapshot_Store_see.N s1 k2 R w) : snapshot_Store_see.M s1 k2 R w := by
  unfold snapshot_Store_see.M
  unfold snapshot_Store_see.N at h
  refine bif_of (fun c3 => ?_) (fun c3 => ?_)
  · have h := h.1 (beq_t c3)
    obtain ⟨a4, a0, h⟩ := h
    refine elim_some a0 ?_
    obtain ⟨hcs, h⟩ := h
    refine ⟨hcs, thenW_in fun a1 e5 => ?_⟩
    replace h := thenW_out h e5
    exact h
  · have h := h.2 (beq_f c3)
    exact h

theorem snapshot_Store_see.go (s1 : Option Addr) (k2 : Int) {R : Value → World → Prop} {w : World} (h : snapshot_Store_see.N s1 k2 R w) : Calls Try.prog 38 #[.pointer s1, .int .i64 k2] w fun e w' => ∃ v, e = .returned v ∧ R v w' := snapshot_Store_see.ok s1 k2 (snapshot_Store_see.up s1 k2 h)
theorem snapshot_Store_see.run (s1 : Option Addr) (k2 : Int) {V : Value} {Q : World → Prop} {w : World} (h : snapshot_Store_see.N s1 k2 (fun v w' => v = V ∧ Q w') w) : Calls Try.prog 38 #[.pointer s1, .int .i64 k2] w (Ret V Q) := (snapshot_Store_see.go s1 k2 h).mono fun e w' ⟨v, he, hv, hq⟩ => ⟨by rw [he, hv], hq⟩

/-- (*snapshot.Store).Compact$1 -/
def snapshot_Store_Compact_1.M (a0 : Addr) (R : Value → World → Prop) (w : World) : Prop :=
 ∃ (x2 : Int), w.cell? a0 = some (.int .i64 x2) ∧
 R (.int .i64 x2) w

theorem snapshot_Store_Compact_1.eq (cap1 : Addr) (R : Value → World → Prop) (w : World) : mfunc Try.prog [] 30 [.pointer (some cap1)] R w = snapshot_Store_Compact_1.M cap1 R w := by kernel_rfl
theorem snapshot_Store_Compact_1.ok (a0 : Addr) {R : Value → World → Prop} {w : World} (h : snapshot_Store_Compact_1.M a0 R w) : Calls Try.prog 30 #[.pointer (some a0)] w fun e w' => ∃ v, e = .returned v ∧ R v w' :=
  mfunc_ok follows (H := []) (args := [.pointer (some a0)]) (by rw [snapshot_Store_Compact_1.eq]; exact h)

def snapshot_Store_Compact_1.N (a0 : Addr) (R : Value → World → Prop) (w : World) : Prop :=
 ∃ (x3 : Int), w.cell? a0 = some (.int .i64 x3) ∧
 R (.int .i64 x3) w

theorem snapshot_Store_Compact_1.up (a0 : Addr) {R : Value → World → Prop} {w : World} (h : snapshot_Store_Compact_1.N a0 R w) : snapshot_Store_Compact_1.M a0 R w := by
  unfold snapshot_Store_Compact_1.M
  unfold snapshot_Store_Compact_1.N at h
  obtain ⟨x3, a1, h⟩ := h
  refine ⟨x3, a1, ?_⟩
  exact h

theorem snapshot_Store_Compact_1.go (a0 : Addr) {R : Value → World → Prop} {w : World} (h : snapshot_Store_Compact_1.N a0 R w) : Calls Try.prog 30 #[.pointer (some a0)] w fun e w' => ∃ v, e = .returned v ∧ R v w' := snapshot_Store_Compact_1.ok a0 (snapshot_Store_Compact_1.up a0 h)
theorem snapshot_Store_Compact_1.run (a0 : Addr) {V : Value} {Q : World → Prop} {w : World} (h : snapshot_Store_Compact_1.N a0 (fun v w' => v = V ∧ Q w') w) : Calls Try.prog 30 #[.pointer (some a0)] w (Ret V Q) := (snapshot_Store_Compact_1.go a0 h).mono fun e w' ⟨v, he, hv, hq⟩ => ⟨by rw [he, hv], hq⟩

/-- (*snapshot.Store).Compact$2 -/
def snapshot_Store_Compact_2.M (a2 : Addr) (a1 : Addr) (R : Value → World → Prop) (w : World) : Prop :=
 ∃ (x3 : Option Addr), w.cell? a2 = some (.pointer x3) ∧
 ∃ (a3 : Option Addr) (a5 : Nat) (a4 : Nat), w.cell? a1 = some (.slice a3 a5 a4) ∧
 Calls Try.prog 32 #[.pointer x3, .slice a3 a5 a4] w fun a6 a7 => ∃ (a0 : Int), a6 = .returned (.int .i64 a0) ∧
 R (.int .i64 a0) a7

theorem snapshot_Store_Compact_2.eq (cap1 : Addr) (cap2 : Addr) (R : Value → World → Prop) (w : World) : mfunc Try.prog [] 31 [.pointer (some cap1), .pointer (some cap2)] R w = snapshot_Store_Compact_2.M cap1 cap2 R w := by kernel_rfl
theorem snapshot_Store_Compact_2.ok (a1 : Addr) (a0 : Addr) {R : Value → World → Prop} {w : World} (h : snapshot_Store_Compact_2.M a1 a0 R w) : Calls Try.prog 31 #[.pointer (some a1), .pointer (some a0)] w fun e w' => ∃ v, e = .returned v ∧ R v w' :=
  mfunc_ok follows (H := []) (args := [.pointer (some a1), .pointer (some a0)]) (by rw [snapshot_Store_Compact_2.eq]; exact h)

def snapshot_Store_Compact_2.N (a2 : Addr) (a1 : Addr) (R : Value → World → Prop) (w : World) : Prop :=
 ∃ (x4 : Option Addr), w.cell? a2 = some (.pointer x4) ∧
 ∃ (a3 : Option Addr) (a4 : Nat) (a5 : Nat), w.cell? a1 = some (.slice a3 a4 a5) ∧
 Calls Try.prog 32 #[.pointer x4, .slice a3 a4 a5] w fun a6 a7 => ∃ (a0 : Int), a6 = .returned (.int .i64 a0) ∧
 R (.int .i64 a0) a7

theorem snapshot_Store_Compact_2.up (a2 : Addr) (a1 : Addr) {R : Value → World → Prop} {w : World} (h : snapshot_Store_Compact_2.N a2 a1 R w) : snapshot_Store_Compact_2.M a2 a1 R w := by
  unfold snapshot_Store_Compact_2.M
  unfold snapshot_Store_Compact_2.N at h
  obtain ⟨x4, a7, h⟩ := h
  refine ⟨x4, a7, ?_⟩
  obtain ⟨a3, a4, a5, a6, h⟩ := h
  refine ⟨a3, a4, a5, a6, ?_⟩
  refine h.mono fun a8 a9 h => ?_
  obtain ⟨a0, he, h⟩ := h
  refine ⟨a0, he, ?_⟩
  exact h

theorem snapshot_Store_Compact_2.go (a1 : Addr) (a0 : Addr) {R : Value → World → Prop} {w : World} (h : snapshot_Store_Compact_2.N a1 a0 R w) : Calls Try.prog 31 #[.pointer (some a1), .pointer (some a0)] w fun e w' => ∃ v, e = .returned v ∧ R v w' := snapshot_Store_Compact_2.ok a1 a0 (snapshot_Store_Compact_2.up a1 a0 h)
theorem snapshot_Store_Compact_2.run (a1 : Addr) (a0 : Addr) {V : Value} {Q : World → Prop} {w : World} (h : snapshot_Store_Compact_2.N a1 a0 (fun v w' => v = V ∧ Q w') w) : Calls Try.prog 31 #[.pointer (some a1), .pointer (some a0)] w (Ret V Q) := (snapshot_Store_Compact_2.go a1 a0 h).mono fun e w' ⟨v, he, hv, hq⟩ => ⟨by rw [he, hv], hq⟩

/-- (*snapshot.Store).Compact$3 -/
def snapshot_Store_Compact_3.M (a9 : Addr) (a8 : Addr) (R : Value → World → Prop) (w : World) : Prop :=
 thenW (w.drew) fun aa =>
 ∃ (x4 : Option Addr), aa.cell? a9 = some (.pointer x4) ∧
 x4.elim False fun a5 =>
 ∃ (d6 : Option Addr), aa.cell? (a5.add 0) = some (.pointer d6) ∧
 ∃ (x7 : Int), aa.cell? a8 = some (.int .u32 x7) ∧
 ∃ (x8 : Int), aa.cell? a8 = some (.int .u32 x8) ∧
 Calls Try.prog 35 #[.int .u32 x7] aa fun ae a6 => ∃ (a4 : Int), ae = .returned (.int .i64 a4) ∧
 a6.cell? a8 = some (.int .u32 x8) ∧
 a6.cell? (a5.add 0) = some (.pointer d6) ∧
 a6.cell? a9 = some (.pointer x4) ∧
 Calls Try.prog 36 #[.int .u32 x8] a6 fun ad a7 => ∃ (a0 : Option Addr) (a2 : Nat) (a1 : Nat), ad = .returned (.slice a0 a2 a1) ∧
 a7.cell? (a5.add 0) = some (.pointer d6) ∧
 a7.cell? a9 = some (.pointer x4) ∧
 Calls Try.prog 34 #[.pointer d6, .int .i64 a4, .slice a0 a2 a1] a7 fun ac ab => ∃ (a3 : Int), ac = .returned (.int .i64 a3) ∧
 R (.int .i64 a3) ab

theorem snapshot_Store_Compact_3.eq (cap1 : Addr) (cap2 : Addr) (R : Value → World → Prop) (w : World) : mfunc Try.prog [] 33 [.pointer (some cap1), .pointer (some cap2)] R w = snapshot_Store_Compact_3.M cap1 cap2 R w := by kernel_rfl
theorem snapshot_Store_Compact_3.ok (a1 : Addr) (a0 : Addr) {R : Value → World → Prop} {w : World} (h : snapshot_Store_Compact_3.M a1 a0 R w) : Calls Try.prog 33 #[.pointer (some a1), .pointer (some a0)] w fun e w' => ∃ v, e = .returned v ∧ R v w' :=
  mfunc_ok follows (H := []) (args := [.pointer (some a1), .pointer (some a0)]) (by rw [snapshot_Store_Compact_3.eq]; exact h)

def snapshot_Store_Compact_3.N (a9 : Addr) (a8 : Addr) (R : Value → World → Prop) (w : World) : Prop :=
 ∃ (x5 : Option Addr), w.cell? a9 = some (.pointer x5) ∧
 ∃ a6 : Addr, x5 = some a6 ∧
 ∃ (d8 : Option Addr), w.cell? (a6.add 0) = some (.pointer d8) ∧
 ∃ (af : Int), w.cell? a8 = some (.int .u32 af) ∧
 ∃ (ad : Int), w.cell? a8 = some (.int .u32 ad) ∧
 ∀ (ag : World), Ext no w ag →
 Calls Try.prog 35 #[.int .u32 af] ag fun ab a5 => ∃ (a1 : Int), ab = .returned (.int .i64 a1) ∧
 a5.cell? a8 = some (.int .u32 ad) ∧
 a5.cell? (a6.add 0) = some (.pointer d8) ∧
 a5.cell? a9 = some (.pointer x5) ∧
 Calls Try.prog 36 #[.int .u32 ad] a5 fun ac a7 => ∃ (a4 : Option Addr) (a0 : Nat) (a3 : Nat), ac = .returned (.slice a4 a0 a3) ∧
 a7.cell? (a6.add 0) = some (.pointer d8) ∧
 a7.cell? a9 = some (.pointer x5) ∧
 Calls Try.prog 34 #[.pointer d8, .int .i64 a1, .slice a4 a0 a3] a7 fun aa ae => ∃ (a2 : Int), aa = .returned (.int .i64 a2) ∧
 R (.int .i64 a2) ae

theorem snapshot_Store_Compact_3.up (a8 : Addr) (a7 : Addr) {R : Value → World → Prop} {w : World} (h : snapshot_Store_Compact_3.N a8 a7 R w) : snapshot_Store_Compact_3.M a8 a7 R w := by
  unfold snapshot_Store_Compact_3.M
  unfold snapshot_Store_Compact_3.N at h
  refine thenW_in fun ar e3 => ?_
  have a5 := (Ext.refl no w).x_drew e3
  obtain ⟨x5, ah, h⟩ := h
  refine ⟨x5, (a5).cell ah id, ?_⟩
  obtain ⟨a6, ak, h⟩ := h
  refine elim_some ak ?_
  obtain ⟨d8, af, h⟩ := h
  refine ⟨d8, (a5).cell af id, ?_⟩
  obtain ⟨am, ai, h⟩ := h
  refine ⟨am, (a5).cell ai id, ?_⟩
  obtain ⟨aq, ae, h⟩ := h
  refine ⟨aq, (a5).cell ae id, ?_⟩
  have h := h ar a5
  refine h.mono fun an al h => ?_
  obtain ⟨a2, he, h⟩ := h
  refine ⟨a2, he, ?_⟩
  obtain ⟨ad, aa, ab, h⟩ := h
  refine ⟨ad, aa, ab, ?_⟩
  refine h.mono fun ap ag h => ?_
  obtain ⟨a1, a3, a4, he, h⟩ := h
  refine ⟨a1, a3, a4, he, ?_⟩
  obtain ⟨a9, ac, h⟩ := h
  refine ⟨a9, ac, ?_⟩
  refine h.mono fun ao aj h => ?_
  obtain ⟨a0, he, h⟩ := h
  refine ⟨a0, he, ?_⟩
  exact h

theorem snapshot_Store_Compact_3.go (a1 : Addr) (a0 : Addr) {R : Value → World → Prop} {w : World} (h : snapshot_Store_Compact_3.N a1 a0 R w) : Calls Try.prog 33 #[.pointer (some a1), .pointer (some a0)] w fun e w' => ∃ v, e = .returned v ∧ R v w' := snapshot_Store_Compact_3.ok a1 a0 (snapshot_Store_Compact_3.up a1 a0 h)
theorem snapshot_Store_Compact_3.run (a1 : Addr) (a0 : Addr) {V : Value} {Q : World → Prop} {w : World} (h : snapshot_Store_Compact_3.N a1 a0 (fun v w' => v = V ∧ Q w') w) : Calls Try.prog 33 #[.pointer (some a1), .pointer (some a0)] w (Ret V Q) := (snapshot_Store_Compact_3.go a1 a0 h).mono fun e w' ⟨v, he, hv, hq⟩ => ⟨by rw [he, hv], hq⟩

/-- (*snapshot.Store).Compact -/
def snapshot_Store_Compact.M (s1 : Option Addr) (j1 : Option Addr) (jc : Nat) (jk : Nat) (R : Value → World → Prop) (w : World) : Prop :=
 thenW (w.alloc (.cells #[.pointer s1] 29)) fun d4 =>
 thenW (d4.alloc (.cells #[.slice j1 jc jk] 30)) fun os =>
 ∃ (x5 : Option Addr), os.cell? (blk w.heap.size) = some (.pointer x5) ∧
 bif Option.isNone x5 then (
 R (.int .i64 23) os) else (
 ∃ (qg : Option Addr) (pw : Nat) (qb : Nat), os.cell? (blk d4.heap.size) = some (.slice qg pw qb) ∧
 Calls Try.prog 28 #[.int .i64 (pw : Int)] os fun q8 a2 => ∃ (cb : Int), q8 = .returned (.int .i64 cb) ∧
 bif cb == 0 then (
 R (.int .i64 3) a2) else (
 ∃ (q5 : Option Addr), a2.cell? (blk w.heap.size) = some (.pointer q5) ∧
 q5.elim False fun qf =>
 ∃ (e5 : Bool), a2.cell? (qf.add 4) = some (.bool e5) ∧
 bif e5 then (
 R (.int .i64 19) a2) else (
 ∃ (q0 : Option Addr), a2.cell? (blk w.heap.size) = some (.pointer q0) ∧
 q0.elim False fun qi =>
 ∃ (bp : Int), a2.cell? (qi.add 2) = some (.int .u32 bp) ∧
 bif bp == 4294967295 then (
 R (.int .i64 2) a2) else (
 ∃ (px : Option Addr), a2.cell? (blk w.heap.size) = some (.pointer px) ∧
 px.elim False fun qc =>
 ∃ (fh : Int), a2.cell? (qc.add 1) = some (.int .i64 fh) ∧
 bif decide (cb > fh) then (
 R (.int .i64 18) a2) else (
 ∃ (q4 : Option Addr), a2.cell? (blk w.heap.size) = some (.pointer q4) ∧
 q4.elim False fun qa =>
 ∃ (bq : Int), a2.cell? (qa.add 2) = some (.int .u32 bq) ∧
 thenW (a2.alloc (.cells #[.int .u32 0] 34)) fun m6 =>
 canStore m6 ((blk a2.heap.size).add 0) ∧
 thenW (m6.setCell ((blk a2.heap.size).add 0) (.int .u32 (IntKind.u32.wrap (bq + 1)))) fun pm =>
 thenW (pm.drew) fun a1 =>
 ∃ (bs : Option Addr), a1.cell? (blk w.heap.size) = some (.pointer bs) ∧
 bs.elim False fun bt =>
 ∃ (aa : Option Addr), a1.cell? (bt.add 0) = some (.pointer aa) ∧
 ∃ (g0 : Option Addr), a1.cell? (blk w.heap.size) = some (.pointer g0) ∧
 ∃ (fz : Int), a1.cell? (blk a2.heap.size) = some (.int .u32 fz) ∧
 ∃ (br : Option Addr), a1.cell? (blk w.heap.size) = some (.pointer br) ∧
 br.elim False fun bu =>
 ∃ (a0 : Int), a1.cell? (bu.add 1) = some (.int .i64 a0) ∧
 ∃ (ab : Int), a1.cell? (blk a2.heap.size) = some (.int .u32 ab) ∧
 (Calls Try.prog 27 #[.pointer g0, .int .u32 fz] a1 fun pg a3 => ∃ (ac : Int), pg = .returned (.int .i64 ac) ∧
 a3.cell? (blk a2.heap.size) = some (.int .u32 ab) ∧
 a3.cell? (bu.add 1) = some (.int .i64 a0) ∧
 a3.cell? (blk w.heap.size) = some (.pointer br) ∧
 a3.cell? (bt.add 0) = some (.pointer aa) ∧
 a3.cell? (blk w.heap.size) = some (.pointer bs) ∧
 (Calls Try.prog 29 #[.pointer aa, .int .i64 ac, .int .i64 a0, .int .u32 ab] a3 fun ov ah => ∃ (ag : Option Addr) (af : Int), ov = .returned (.tuple #[.pointer ag, .int .i64 af]) ∧
 (thenW (ah.alloc (.cells #[.pointer none] 58)) fun g4 =>
 thenW (g4.alloc (.cells #[.int .i64 0] 26)) fun na =>
 canStore na ((blk ah.heap.size).add 0) ∧
 thenW (na.setCell ((blk ah.heap.size).add 0) (.pointer ag)) fun m0 =>
 canStore m0 ((blk g4.heap.size).add 0) ∧
 thenW (m0.setCell ((blk g4.heap.size).add 0) (.int .i64 af)) fun g5 =>
 ∃ (pt : Option Addr), g5.cell? (blk w.heap.size) = some (.pointer pt) ∧
 pt.elim False fun qe =>
 ∃ (pv : Option Addr), g5.cell? (qe.add 0) = some (.pointer pv) ∧
 thenW (g5.alloc (.cells #[.func (.func 30) #[] #[.pointer (some (blk g4.heap.size))], .func (.func 31) #[] #[.pointer (some (blk ah.heap.size)), .pointer (some (blk d4.heap.size))], .func (.func 33) #[] #[.pointer (some (blk w.heap.size)), .pointer (some (blk a2.heap.size))], .func (.func 37) #[.pointer pv] #[]] 68)) fun p4 =>
 ∃ (I1 : Nat → List Value → World → Prop) (qd : Nat), I1 qd [.int .i64 0] p4 ∧ ∀ (pp : Nat) (g2 : World) (iv : Int), I1 pp [.int .i64 iv] g2 →
 bif decide (iv < (4 : Int)) then (
 0 ≤ (iv : Int) ∧ (iv : Int) < (4 : Int) ∧
 ∃ (g3 : Nat) (jy : Array Value) (k1 : Array Value), g2.cell? ((blk g5.heap.size).add (Int.toNat iv * 1)) = some (.func (.func g3) jy k1) ∧
 thenW (g2.drew) fun jo =>
 ∃ (ka : Option Addr), jo.cell? (blk w.heap.size) = some (.pointer ka) ∧
 bif enters Try.prog g3 then Calls Try.prog g3 (jy.toList ++ ([] : List Value) ++ k1.toList).toArray jo (fun pc lx => ∃ (n5 : Int), pc = .returned (.int .i64 n5) ∧
 lx.cell? (blk w.heap.size) = some (.pointer ka) ∧
 Calls Try.prog 38 #[.pointer ka, .int .i64 n5] lx fun p2 mw => ∃ (fa : Int), p2 = .returned (.int .i64 fa) ∧
 bif fa != 0 then (
 R (.int .i64 fa) mw) else (
 ∃ pu, pu < pp ∧ I1 pu [.int .i64 (IntKind.i64.wrap (iv + 1))] mw)) else (∃ (n5 : Int) (j4 : World), (externCall g3 (jy.toList ++ ([] : List Value) ++ k1.toList).toArray).run Try.prog jo = .ok (.int .i64 n5) j4 ∧
 j4.cell? (blk w.heap.size) = some (.pointer ka) ∧
 Calls Try.prog 38 #[.pointer ka, .int .i64 n5] j4 fun p0 m1 => ∃ (fv : Int), p0 = .returned (.int .i64 fv) ∧
 bif fv != 0 then (
 R (.int .i64 fv) m1) else (
 ∃ q3, q3 < pp ∧ I1 q3 [.int .i64 (IntKind.i64.wrap (iv + 1))] m1))) else (
 thenW (g2.drew) fun e4 =>
 ∃ (pz : Option Addr), e4.cell? (blk w.heap.size) = some (.pointer pz) ∧
 ∃ (p7 : Option Addr), e4.cell? (blk w.heap.size) = some (.pointer p7) ∧
 ∃ (py : Int), e4.cell? (blk a2.heap.size) = some (.int .u32 py) ∧
 ∃ (po : Option Addr), e4.cell? (blk ah.heap.size) = some (.pointer po) ∧
 pz.elim False fun q7 =>
 canStore e4 ((q7.add 2).add 0) ∧
 thenW (e4.setCell ((q7.add 2).add 0) (.int .u32 py)) fun g7 =>
 g7.cell? (blk ah.heap.size) = some (.pointer po) ∧
 g7.cell? (blk w.heap.size) = some (.pointer p7) ∧
 p7.elim False fun q2 =>
 canStore g7 ((q2.add 3).add 0) ∧
 thenW (g7.setCell ((q2.add 3).add 0) (.pointer po)) fun pa =>
 R (.int .i64 0) pa)) ∧
 (thenW (ah.alloc (.cells #[.int .i64 0] 26)) fun e3 =>
 thenW (e3.alloc (.cells #[.pointer none] 58)) fun om =>
 canStore om ((blk e3.heap.size).add 0) ∧
 thenW (om.setCell ((blk e3.heap.size).add 0) (.pointer ag)) fun kf =>
 canStore kf ((blk ah.heap.size).add 0) ∧
 thenW (kf.setCell ((blk ah.heap.size).add 0) (.int .i64 af)) fun g6 =>
 ∃ (q6 : Option Addr), g6.cell? (blk w.heap.size) = some (.pointer q6) ∧
 q6.elim False fun q9 =>
 ∃ (ps : Option Addr), g6.cell? (q9.add 0) = some (.pointer ps) ∧
 thenW (g6.alloc (.cells #[.func (.func 30) #[] #[.pointer (some (blk ah.heap.size))], .func (.func 31) #[] #[.pointer (some (blk e3.heap.size)), .pointer (some (blk d4.heap.size))], .func (.func 33) #[] #[.pointer (some (blk w.heap.size)), .pointer (some (blk a2.heap.size))], .func (.func 37) #[.pointer ps] #[]] 68)) fun pj =>
 ∃ (I1 : Nat → List Value → World → Prop) (qh : Nat), I1 qh [.int .i64 0] pj ∧ ∀ (pn : Nat) (g1 : World) (ju : Int), I1 pn [.int .i64 ju] g1 →
 bif decide (ju < (4 : Int)) then (
 0 ≤ (ju : Int) ∧ (ju : Int) < (4 : Int) ∧
 ∃ (g8 : Nat) (jt : Array Value) (js : Array Value), g1.cell? ((blk g6.heap.size).add (Int.toNat ju * 1)) = some (.func (.func g8) jt js) ∧
 thenW (g1.drew) fun jr =>
 ∃ (l3 : Option Addr), jr.cell? (blk w.heap.size) = some (.pointer l3) ∧
 bif enters Try.prog g8 then Calls Try.prog g8 (jt.toList ++ ([] : List Value) ++ js.toList).toArray jr (fun pe mq => ∃ (o3 : Int), pe = .returned (.int .i64 o3) ∧
 mq.cell? (blk w.heap.size) = some (.pointer l3) ∧
 Calls Try.prog 38 #[.pointer l3, .int .i64 o3] mq fun pf lj => ∃ (f2 : Int), pf = .returned (.int .i64 f2) ∧
 bif f2 != 0 then (
 R (.int .i64 f2) lj) else (
 ∃ q1, q1 < pn ∧ I1 q1 [.int .i64 (IntKind.i64.wrap (ju + 1))] lj)) else (∃ (o3 : Int) (it : World), (externCall g8 (jt.toList ++ ([] : List Value) ++ js.toList).toArray).run Try.prog jr = .ok (.int .i64 o3) it ∧
 it.cell? (blk w.heap.size) = some (.pointer l3) ∧
 Calls Try.prog 38 #[.pointer l3, .int .i64 o3] it fun kj ga => ∃ (cd : Int), kj = .returned (.int .i64 cd) ∧
 bif cd != 0 then (
 R (.int .i64 cd) ga) else (
 ∃ og, og < pn ∧ I1 og [.int .i64 (IntKind.i64.wrap (ju + 1))] ga))) else (
 thenW (g1.drew) fun b7 =>
 ∃ (k6 : Option Addr), b7.cell? (blk w.heap.size) = some (.pointer k6) ∧
 ∃ (ix : Option Addr), b7.cell? (blk w.heap.size) = some (.pointer ix) ∧
 ∃ (k8 : Int), b7.cell? (blk a2.heap.size) = some (.int .u32 k8) ∧
 ∃ (jm : Option Addr), b7.cell? (blk e3.heap.size) = some (.pointer jm) ∧
 k6.elim False fun lu =>
 canStore b7 ((lu.add 2).add 0) ∧
 thenW (b7.setCell ((lu.add 2).add 0) (.int .u32 k8)) fun dz =>
 dz.cell? (blk e3.heap.size) = some (.pointer jm) ∧
 dz.cell? (blk w.heap.size) = some (.pointer ix) ∧
 ix.elim False fun ld =>
 canStore dz ((ld.add 3).add 0) ∧
 thenW (dz.setCell ((ld.add 3).add 0) (.pointer jm)) fun ng =>
 R (.int .i64 0) ng))) ∧
 (thenW (a3.alloc (.cells #[.pointer none] 58)) fun a9 =>
 a9.cell? (blk a2.heap.size) = some (.int .u32 ab) ∧
 a9.cell? (bu.add 1) = some (.int .i64 a0) ∧
 a9.cell? (blk w.heap.size) = some (.pointer br) ∧
 a9.cell? (bt.add 0) = some (.pointer aa) ∧
 a9.cell? (blk w.heap.size) = some (.pointer bs) ∧
 (Calls Try.prog 29 #[.pointer aa, .int .i64 ac, .int .i64 a0, .int .u32 ab] a9 fun oi d1 => ∃ (b5 : Option Addr) (bl : Int), oi = .returned (.tuple #[.pointer b5, .int .i64 bl]) ∧
 thenW (d1.alloc (.cells #[.int .i64 0] 26)) fun gd =>
 canStore gd ((blk a3.heap.size).add 0) ∧
 thenW (gd.setCell ((blk a3.heap.size).add 0) (.pointer b5)) fun gx =>
 canStore gx ((blk d1.heap.size).add 0) ∧
 thenW (gx.setCell ((blk d1.heap.size).add 0) (.int .i64 bl)) fun cx =>
 ∃ (nb : Option Addr), cx.cell? (blk w.heap.size) = some (.pointer nb) ∧
 nb.elim False fun p8 =>
 ∃ (m3 : Option Addr), cx.cell? (p8.add 0) = some (.pointer m3) ∧
 thenW (cx.alloc (.cells #[.func (.func 30) #[] #[.pointer (some (blk d1.heap.size))], .func (.func 31) #[] #[.pointer (some (blk a3.heap.size)), .pointer (some (blk d4.heap.size))], .func (.func 33) #[] #[.pointer (some (blk w.heap.size)), .pointer (some (blk a2.heap.size))], .func (.func 37) #[.pointer m3] #[]] 68)) fun l1 =>
 ∃ (I1 : Nat → List Value → World → Prop) (ot : Nat), I1 ot [.int .i64 0] l1 ∧ ∀ (j6 : Nat) (dw : World) (bx : Int), I1 j6 [.int .i64 bx] dw →
 bif decide (bx < (4 : Int)) then (
 0 ≤ (bx : Int) ∧ (bx : Int) < (4 : Int) ∧
 ∃ (dy : Nat) (ep : Array Value) (et : Array Value), dw.cell? ((blk cx.heap.size).add (Int.toNat bx * 1)) = some (.func (.func dy) ep et) ∧
 thenW (dw.drew) fun e6 =>
 ∃ (f8 : Option Addr), e6.cell? (blk w.heap.size) = some (.pointer f8) ∧
 bif enters Try.prog dy then Calls Try.prog dy (ep.toList ++ ([] : List Value) ++ et.toList).toArray e6 (fun mg ih => ∃ (fs : Int), mg = .returned (.int .i64 fs) ∧
 ih.cell? (blk w.heap.size) = some (.pointer f8) ∧
 Calls Try.prog 38 #[.pointer f8, .int .i64 fs] ih fun mn ia => ∃ (c1 : Int), mn = .returned (.int .i64 c1) ∧
 bif c1 != 0 then (
 R (.int .i64 c1) ia) else (
 ∃ nc, nc < j6 ∧ I1 nc [.int .i64 (IntKind.i64.wrap (bx + 1))] ia)) else (∃ (fs : Int) (f4 : World), (externCall dy (ep.toList ++ ([] : List Value) ++ et.toList).toArray).run Try.prog e6 = .ok (.int .i64 fs) f4 ∧
 f4.cell? (blk w.heap.size) = some (.pointer f8) ∧
 Calls Try.prog 38 #[.pointer f8, .int .i64 fs] f4 fun n6 gz => ∃ (ce : Int), n6 = .returned (.int .i64 ce) ∧
 bif ce != 0 then (
 R (.int .i64 ce) gz) else (
 ∃ m9, m9 < j6 ∧ I1 m9 [.int .i64 (IntKind.i64.wrap (bx + 1))] gz))) else (
 thenW (dw.drew) fun ar =>
 ∃ (nh : Option Addr), ar.cell? (blk w.heap.size) = some (.pointer nh) ∧
 ∃ (jn : Option Addr), ar.cell? (blk w.heap.size) = some (.pointer jn) ∧
 ∃ (nz : Int), ar.cell? (blk a2.heap.size) = some (.int .u32 nz) ∧
 ∃ (jx : Option Addr), ar.cell? (blk a3.heap.size) = some (.pointer jx) ∧
 nh.elim False fun ku =>
 canStore ar ((ku.add 2).add 0) ∧
 thenW (ar.setCell ((ku.add 2).add 0) (.int .u32 nz)) fun df =>
 df.cell? (blk a3.heap.size) = some (.pointer jx) ∧
 df.cell? (blk w.heap.size) = some (.pointer jn) ∧
 jn.elim False fun o4 =>
 canStore df ((o4.add 3).add 0) ∧
 thenW (df.setCell ((o4.add 3).add 0) (.pointer jx)) fun o5 =>
 R (.int .i64 0) o5)) ∧
 (thenW (a9.alloc (.cells #[.int .i64 0] 26)) fun an =>
 an.cell? (blk a2.heap.size) = some (.int .u32 ab) ∧
 an.cell? (bu.add 1) = some (.int .i64 a0) ∧
 an.cell? (blk w.heap.size) = some (.pointer br) ∧
 an.cell? (bt.add 0) = some (.pointer aa) ∧
 an.cell? (blk w.heap.size) = some (.pointer bs) ∧
 Calls Try.prog 29 #[.pointer aa, .int .i64 ac, .int .i64 a0, .int .u32 ab] an fun lc gq => ∃ (bj : Option Addr) (b1 : Int), lc = .returned (.tuple #[.pointer bj, .int .i64 b1]) ∧
 canStore gq ((blk a3.heap.size).add 0) ∧
 thenW (gq.setCell ((blk a3.heap.size).add 0) (.pointer bj)) fun gv =>
 canStore gv ((blk a9.heap.size).add 0) ∧
 thenW (gv.setCell ((blk a9.heap.size).add 0) (.int .i64 b1)) fun dr =>
 ∃ (kl : Option Addr), dr.cell? (blk w.heap.size) = some (.pointer kl) ∧
 kl.elim False fun pr =>
 ∃ (ns : Option Addr), dr.cell? (pr.add 0) = some (.pointer ns) ∧
 thenW (dr.alloc (.cells #[.func (.func 30) #[] #[.pointer (some (blk a9.heap.size))], .func (.func 31) #[] #[.pointer (some (blk a3.heap.size)), .pointer (some (blk d4.heap.size))], .func (.func 33) #[] #[.pointer (some (blk w.heap.size)), .pointer (some (blk a2.heap.size))], .func (.func 37) #[.pointer ns] #[]] 68)) fun la =>
 ∃ (I1 : Nat → List Value → World → Prop) (p1 : Nat), I1 p1 [.int .i64 0] la ∧ ∀ (j7 : Nat) (dl : World) (ck : Int), I1 j7 [.int .i64 ck] dl →
 bif decide (ck < (4 : Int)) then (
 0 ≤ (ck : Int) ∧ (ck : Int) < (4 : Int) ∧
 ∃ (cz : Nat) (fx : Array Value) (em : Array Value), dl.cell? ((blk dr.heap.size).add (Int.toNat ck * 1)) = some (.func (.func cz) fx em) ∧
 thenW (dl.drew) fun fl =>
 ∃ (e8 : Option Addr), fl.cell? (blk w.heap.size) = some (.pointer e8) ∧
 bif enters Try.prog cz then Calls Try.prog cz (fx.toList ++ ([] : List Value) ++ em.toList).toArray fl (fun nj gp => ∃ (f9 : Int), nj = .returned (.int .i64 f9) ∧
 gp.cell? (blk w.heap.size) = some (.pointer e8) ∧
 Calls Try.prog 38 #[.pointer e8, .int .i64 f9] gp fun mm ig => ∃ (c2 : Int), mm = .returned (.int .i64 c2) ∧
 bif c2 != 0 then (
 R (.int .i64 c2) ig) else (
 ∃ o1, o1 < j7 ∧ I1 o1 [.int .i64 (IntKind.i64.wrap (ck + 1))] ig)) else (∃ (f9 : Int) (ez : World), (externCall cz (fx.toList ++ ([] : List Value) ++ em.toList).toArray).run Try.prog fl = .ok (.int .i64 f9) ez ∧
 ez.cell? (blk w.heap.size) = some (.pointer e8) ∧
 Calls Try.prog 38 #[.pointer e8, .int .i64 f9] ez fun n1 gs => ∃ (cm : Int), n1 = .returned (.int .i64 cm) ∧
 bif cm != 0 then (
 R (.int .i64 cm) gs) else (
 ∃ ni, ni < j7 ∧ I1 ni [.int .i64 (IntKind.i64.wrap (ck + 1))] gs))) else (
 thenW (dl.drew) fun av =>
 ∃ (nq : Option Addr), av.cell? (blk w.heap.size) = some (.pointer nq) ∧
 ∃ (jw : Option Addr), av.cell? (blk w.heap.size) = some (.pointer jw) ∧
 ∃ (kh : Int), av.cell? (blk a2.heap.size) = some (.int .u32 kh) ∧
 ∃ (jh : Option Addr), av.cell? (blk a3.heap.size) = some (.pointer jh) ∧
 nq.elim False fun k3 =>
 canStore av ((k3.add 2).add 0) ∧
 thenW (av.setCell ((k3.add 2).add 0) (.int .u32 kh)) fun du =>
 du.cell? (blk a3.heap.size) = some (.pointer jh) ∧
 du.cell? (blk w.heap.size) = some (.pointer jw) ∧
 jw.elim False fun lg =>
 canStore du ((lg.add 3).add 0) ∧
 thenW (du.setCell ((lg.add 3).add 0) (.pointer jh)) fun oh =>
 R (.int .i64 0) oh))) ∧
 (thenW (a3.alloc (.cells #[.int .i64 0] 26)) fun a7 =>
 a7.cell? (blk a2.heap.size) = some (.int .u32 ab) ∧
 a7.cell? (bu.add 1) = some (.int .i64 a0) ∧
 a7.cell? (blk w.heap.size) = some (.pointer br) ∧
 a7.cell? (bt.add 0) = some (.pointer aa) ∧
 a7.cell? (blk w.heap.size) = some (.pointer bs) ∧
 (Calls Try.prog 29 #[.pointer aa, .int .i64 ac, .int .i64 a0, .int .u32 ab] a7 fun np aw => ∃ (bh : Option Addr) (ba : Int), np = .returned (.tuple #[.pointer bh, .int .i64 ba]) ∧
 thenW (aw.alloc (.cells #[.pointer none] 58)) fun gn =>
 canStore gn ((blk aw.heap.size).add 0) ∧
 thenW (gn.setCell ((blk aw.heap.size).add 0) (.pointer bh)) fun gi =>
 canStore gi ((blk a3.heap.size).add 0) ∧
 thenW (gi.setCell ((blk a3.heap.size).add 0) (.int .i64 ba)) fun dn =>
 ∃ (nr : Option Addr), dn.cell? (blk w.heap.size) = some (.pointer nr) ∧
 nr.elim False fun p9 =>
 ∃ (ky : Option Addr), dn.cell? (p9.add 0) = some (.pointer ky) ∧
 thenW (dn.alloc (.cells #[.func (.func 30) #[] #[.pointer (some (blk a3.heap.size))], .func (.func 31) #[] #[.pointer (some (blk aw.heap.size)), .pointer (some (blk d4.heap.size))], .func (.func 33) #[] #[.pointer (some (blk w.heap.size)), .pointer (some (blk a2.heap.size))], .func (.func 37) #[.pointer ky] #[]] 68)) fun my =>
 ∃ (I1 : Nat → List Value → World → Prop) (pk : Nat), I1 pk [.int .i64 0] my ∧ ∀ (jg : Nat) (dj : World) (bv : Int), I1 jg [.int .i64 bv] dj →
 bif decide (bv < (4 : Int)) then (
 0 ≤ (bv : Int) ∧ (bv : Int) < (4 : Int) ∧
 ∃ (dd : Nat) (fg : Array Value) (fo : Array Value), dj.cell? ((blk dn.heap.size).add (Int.toNat bv * 1)) = some (.func (.func dd) fg fo) ∧
 thenW (dj.drew) fun eb =>
 ∃ (fk : Option Addr), eb.cell? (blk w.heap.size) = some (.pointer fk) ∧
 bif enters Try.prog dd then Calls Try.prog dd (fg.toList ++ ([] : List Value) ++ fo.toList).toArray eb (fun oo io => ∃ (fi : Int), oo = .returned (.int .i64 fi) ∧
 io.cell? (blk w.heap.size) = some (.pointer fk) ∧
 Calls Try.prog 38 #[.pointer fk, .int .i64 fi] io fun mj iq => ∃ (c8 : Int), mj = .returned (.int .i64 c8) ∧
 bif c8 != 0 then (
 R (.int .i64 c8) iq) else (
 ∃ mk, mk < jg ∧ I1 mk [.int .i64 (IntKind.i64.wrap (bv + 1))] iq)) else (∃ (fi : Int) (ff : World), (externCall dd (fg.toList ++ ([] : List Value) ++ fo.toList).toArray).run Try.prog eb = .ok (.int .i64 fi) ff ∧
 ff.cell? (blk w.heap.size) = some (.pointer fk) ∧
 Calls Try.prog 38 #[.pointer fk, .int .i64 fi] ff fun o6 gc => ∃ (c6 : Int), o6 = .returned (.int .i64 c6) ∧
 bif c6 != 0 then (
 R (.int .i64 c6) gc) else (
 ∃ m4, m4 < jg ∧ I1 m4 [.int .i64 (IntKind.i64.wrap (bv + 1))] gc))) else (
 thenW (dj.drew) fun bi =>
 ∃ (m5 : Option Addr), bi.cell? (blk w.heap.size) = some (.pointer m5) ∧
 ∃ (jd : Option Addr), bi.cell? (blk w.heap.size) = some (.pointer jd) ∧
 ∃ (mz : Int), bi.cell? (blk a2.heap.size) = some (.int .u32 mz) ∧
 ∃ (je : Option Addr), bi.cell? (blk aw.heap.size) = some (.pointer je) ∧
 m5.elim False fun n3 =>
 canStore bi ((n3.add 2).add 0) ∧
 thenW (bi.setCell ((n3.add 2).add 0) (.int .u32 mz)) fun dp =>
 dp.cell? (blk aw.heap.size) = some (.pointer je) ∧
 dp.cell? (blk w.heap.size) = some (.pointer jd) ∧
 jd.elim False fun k9 =>
 canStore dp ((k9.add 3).add 0) ∧
 thenW (dp.setCell ((k9.add 3).add 0) (.pointer je)) fun kp =>
 R (.int .i64 0) kp)) ∧
 (thenW (a7.alloc (.cells #[.pointer none] 58)) fun b2 =>
 b2.cell? (blk a2.heap.size) = some (.int .u32 ab) ∧
 b2.cell? (bu.add 1) = some (.int .i64 a0) ∧
 b2.cell? (blk w.heap.size) = some (.pointer br) ∧
 b2.cell? (bt.add 0) = some (.pointer aa) ∧
 b2.cell? (blk w.heap.size) = some (.pointer bs) ∧
 Calls Try.prog 29 #[.pointer aa, .int .i64 ac, .int .i64 a0, .int .u32 ab] b2 fun l6 gu => ∃ (b0 : Option Addr) (ax : Int), l6 = .returned (.tuple #[.pointer b0, .int .i64 ax]) ∧
 canStore gu ((blk a7.heap.size).add 0) ∧
 thenW (gu.setCell ((blk a7.heap.size).add 0) (.pointer b0)) fun gg =>
 canStore gg ((blk a3.heap.size).add 0) ∧
 thenW (gg.setCell ((blk a3.heap.size).add 0) (.int .i64 ax)) fun dx =>
 ∃ (nx : Option Addr), dx.cell? (blk w.heap.size) = some (.pointer nx) ∧
 nx.elim False fun p3 =>
 ∃ (nl : Option Addr), dx.cell? (p3.add 0) = some (.pointer nl) ∧
 thenW (dx.alloc (.cells #[.func (.func 30) #[] #[.pointer (some (blk a3.heap.size))], .func (.func 31) #[] #[.pointer (some (blk a7.heap.size)), .pointer (some (blk d4.heap.size))], .func (.func 33) #[] #[.pointer (some (blk w.heap.size)), .pointer (some (blk a2.heap.size))], .func (.func 37) #[.pointer nl] #[]] 68)) fun kb =>
 ∃ (I1 : Nat → List Value → World → Prop) (pq : Nat), I1 pq [.int .i64 0] kb ∧ ∀ (jp : Nat) (dh : World) (cr : Int), I1 jp [.int .i64 cr] dh →
 bif decide (cr < (4 : Int)) then (
 0 ≤ (cr : Int) ∧ (cr : Int) < (4 : Int) ∧
 ∃ (de : Nat) (ew : Array Value) (f0 : Array Value), dh.cell? ((blk dx.heap.size).add (Int.toNat cr * 1)) = some (.func (.func de) ew f0) ∧
 thenW (dh.drew) fun ft =>
 ∃ (ex : Option Addr), ft.cell? (blk w.heap.size) = some (.pointer ex) ∧
 bif enters Try.prog de then Calls Try.prog de (ew.toList ++ ([] : List Value) ++ f0.toList).toArray ft (fun n7 gj => ∃ (fm : Int), n7 = .returned (.int .i64 fm) ∧
 gj.cell? (blk w.heap.size) = some (.pointer ex) ∧
 Calls Try.prog 38 #[.pointer ex, .int .i64 fm] gj fun k7 ie => ∃ (cp : Int), k7 = .returned (.int .i64 cp) ∧
 bif cp != 0 then (
 R (.int .i64 cp) ie) else (
 ∃ nu, nu < jp ∧ I1 nu [.int .i64 (IntKind.i64.wrap (cr + 1))] ie)) else (∃ (fm : Int) (ee : World), (externCall de (ew.toList ++ ([] : List Value) ++ f0.toList).toArray).run Try.prog ft = .ok (.int .i64 fm) ee ∧
 ee.cell? (blk w.heap.size) = some (.pointer ex) ∧
 Calls Try.prog 38 #[.pointer ex, .int .i64 fm] ee fun lv i3 => ∃ (cj : Int), lv = .returned (.int .i64 cj) ∧
 bif cj != 0 then (
 R (.int .i64 cj) i3) else (
 ∃ ko, ko < jp ∧ I1 ko [.int .i64 (IntKind.i64.wrap (cr + 1))] i3))) else (
 thenW (dh.drew) fun aj =>
 ∃ (ml : Option Addr), aj.cell? (blk w.heap.size) = some (.pointer ml) ∧
 ∃ (jq : Option Addr), aj.cell? (blk w.heap.size) = some (.pointer jq) ∧
 ∃ (ln : Int), aj.cell? (blk a2.heap.size) = some (.int .u32 ln) ∧
 ∃ (k0 : Option Addr), aj.cell? (blk a7.heap.size) = some (.pointer k0) ∧
 ml.elim False fun ms =>
 canStore aj ((ms.add 2).add 0) ∧
 thenW (aj.setCell ((ms.add 2).add 0) (.int .u32 ln)) fun d7 =>
 d7.cell? (blk a7.heap.size) = some (.pointer k0) ∧
 d7.cell? (blk w.heap.size) = some (.pointer jq) ∧
 jq.elim False fun lz =>
 canStore d7 ((lz.add 3).add 0) ∧
 thenW (d7.setCell ((lz.add 3).add 0) (.pointer k0)) fun lr =>
 R (.int .i64 0) lr)))) ∧
 (thenW (a1.alloc (.cells #[.pointer none] 58)) fun a6 =>
 a6.cell? (blk a2.heap.size) = some (.int .u32 ab) ∧
 a6.cell? (bu.add 1) = some (.int .i64 a0) ∧
 a6.cell? (blk w.heap.size) = some (.pointer br) ∧
 a6.cell? (blk a2.heap.size) = some (.int .u32 fz) ∧
 a6.cell? (blk w.heap.size) = some (.pointer g0) ∧
 a6.cell? (bt.add 0) = some (.pointer aa) ∧
 a6.cell? (blk w.heap.size) = some (.pointer bs) ∧
 (Calls Try.prog 27 #[.pointer g0, .int .u32 fz] a6 fun o0 a8 => ∃ (bn : Int), o0 = .returned (.int .i64 bn) ∧
 a8.cell? (blk a2.heap.size) = some (.int .u32 ab) ∧
 a8.cell? (bu.add 1) = some (.int .i64 a0) ∧
 a8.cell? (blk w.heap.size) = some (.pointer br) ∧
 a8.cell? (bt.add 0) = some (.pointer aa) ∧
 a8.cell? (blk w.heap.size) = some (.pointer bs) ∧
 (Calls Try.prog 29 #[.pointer aa, .int .i64 bn, .int .i64 a0, .int .u32 ab] a8 fun ly dc => ∃ (bc : Option Addr) (am : Int), ly = .returned (.tuple #[.pointer bc, .int .i64 am]) ∧
 thenW (dc.alloc (.cells #[.int .i64 0] 26)) fun gw =>
 canStore gw ((blk a1.heap.size).add 0) ∧
 thenW (gw.setCell ((blk a1.heap.size).add 0) (.pointer bc)) fun il =>
 canStore il ((blk dc.heap.size).add 0) ∧
 thenW (il.setCell ((blk dc.heap.size).add 0) (.int .i64 am)) fun dm =>
 ∃ (l5 : Option Addr), dm.cell? (blk w.heap.size) = some (.pointer l5) ∧
 l5.elim False fun oz =>
 ∃ (ls : Option Addr), dm.cell? (oz.add 0) = some (.pointer ls) ∧
 thenW (dm.alloc (.cells #[.func (.func 30) #[] #[.pointer (some (blk dc.heap.size))], .func (.func 31) #[] #[.pointer (some (blk a1.heap.size)), .pointer (some (blk d4.heap.size))], .func (.func 33) #[] #[.pointer (some (blk w.heap.size)), .pointer (some (blk a2.heap.size))], .func (.func 37) #[.pointer ls] #[]] 68)) fun mi =>
 ∃ (I1 : Nat → List Value → World → Prop) (pd : Nat), I1 pd [.int .i64 0] mi ∧ ∀ (j8 : Nat) (di : World) (cn : Int), I1 j8 [.int .i64 cn] di →
 bif decide (cn < (4 : Int)) then (
 0 ≤ (cn : Int) ∧ (cn : Int) < (4 : Int) ∧
 ∃ (d6 : Nat) (fe : Array Value) (f3 : Array Value), di.cell? ((blk dm.heap.size).add (Int.toNat cn * 1)) = some (.func (.func d6) fe f3) ∧
 thenW (di.drew) fun eq =>
 ∃ (er : Option Addr), eq.cell? (blk w.heap.size) = some (.pointer er) ∧
 bif enters Try.prog d6 then Calls Try.prog d6 (fe.toList ++ ([] : List Value) ++ f3.toList).toArray eq (fun l8 ij => ∃ (fw : Int), l8 = .returned (.int .i64 fw) ∧
 ij.cell? (blk w.heap.size) = some (.pointer er) ∧
 Calls Try.prog 38 #[.pointer er, .int .i64 fw] ij fun lh i4 => ∃ (cg : Int), lh = .returned (.int .i64 cg) ∧
 bif cg != 0 then (
 R (.int .i64 cg) i4) else (
 ∃ m2, m2 < j8 ∧ I1 m2 [.int .i64 (IntKind.i64.wrap (cn + 1))] i4)) else (∃ (fw : Int) (f5 : World), (externCall d6 (fe.toList ++ ([] : List Value) ++ f3.toList).toArray).run Try.prog eq = .ok (.int .i64 fw) f5 ∧
 f5.cell? (blk w.heap.size) = some (.pointer er) ∧
 Calls Try.prog 38 #[.pointer er, .int .i64 fw] f5 fun nt i8 => ∃ (bz : Int), nt = .returned (.int .i64 bz) ∧
 bif bz != 0 then (
 R (.int .i64 bz) i8) else (
 ∃ lm, lm < j8 ∧ I1 lm [.int .i64 (IntKind.i64.wrap (cn + 1))] i8))) else (
 thenW (di.drew) fun b4 =>
 ∃ (mt : Option Addr), b4.cell? (blk w.heap.size) = some (.pointer mt) ∧
 ∃ (jv : Option Addr), b4.cell? (blk w.heap.size) = some (.pointer jv) ∧
 ∃ (oe : Int), b4.cell? (blk a2.heap.size) = some (.int .u32 oe) ∧
 ∃ (jj : Option Addr), b4.cell? (blk a1.heap.size) = some (.pointer jj) ∧
 mt.elim False fun nn =>
 canStore b4 ((nn.add 2).add 0) ∧
 thenW (b4.setCell ((nn.add 2).add 0) (.int .u32 oe)) fun ds =>
 ds.cell? (blk a1.heap.size) = some (.pointer jj) ∧
 ds.cell? (blk w.heap.size) = some (.pointer jv) ∧
 jv.elim False fun kz =>
 canStore ds ((kz.add 3).add 0) ∧
 thenW (ds.setCell ((kz.add 3).add 0) (.pointer jj)) fun nw =>
 R (.int .i64 0) nw)) ∧
 (thenW (a8.alloc (.cells #[.int .i64 0] 26)) fun ay =>
 ay.cell? (blk a2.heap.size) = some (.int .u32 ab) ∧
 ay.cell? (bu.add 1) = some (.int .i64 a0) ∧
 ay.cell? (blk w.heap.size) = some (.pointer br) ∧
 ay.cell? (bt.add 0) = some (.pointer aa) ∧
 ay.cell? (blk w.heap.size) = some (.pointer bs) ∧
 Calls Try.prog 29 #[.pointer aa, .int .i64 bn, .int .i64 a0, .int .u32 ab] ay fun oq gf => ∃ (b3 : Option Addr) (be : Int), oq = .returned (.tuple #[.pointer b3, .int .i64 be]) ∧
 canStore gf ((blk a1.heap.size).add 0) ∧
 thenW (gf.setCell ((blk a1.heap.size).add 0) (.pointer b3)) fun i6 =>
 canStore i6 ((blk a8.heap.size).add 0) ∧
 thenW (i6.setCell ((blk a8.heap.size).add 0) (.int .i64 be)) fun cu =>
 ∃ (nd : Option Addr), cu.cell? (blk w.heap.size) = some (.pointer nd) ∧
 nd.elim False fun pb =>
 ∃ (mf : Option Addr), cu.cell? (pb.add 0) = some (.pointer mf) ∧
 thenW (cu.alloc (.cells #[.func (.func 30) #[] #[.pointer (some (blk a8.heap.size))], .func (.func 31) #[] #[.pointer (some (blk a1.heap.size)), .pointer (some (blk d4.heap.size))], .func (.func 33) #[] #[.pointer (some (blk w.heap.size)), .pointer (some (blk a2.heap.size))], .func (.func 37) #[.pointer mf] #[]] 68)) fun kx =>
 ∃ (I1 : Nat → List Value → World → Prop) (ph : Nat), I1 ph [.int .i64 0] kx ∧ ∀ (iz : Nat) (cy : World) (ci : Int), I1 iz [.int .i64 ci] cy →
 bif decide (ci < (4 : Int)) then (
 0 ≤ (ci : Int) ∧ (ci : Int) < (4 : Int) ∧
 ∃ (dg : Nat) (ef : Array Value) (eu : Array Value), cy.cell? ((blk cu.heap.size).add (Int.toNat ci * 1)) = some (.func (.func dg) ef eu) ∧
 thenW (cy.drew) fun fd =>
 ∃ (ey : Option Addr), fd.cell? (blk w.heap.size) = some (.pointer ey) ∧
 bif enters Try.prog dg then Calls Try.prog dg (ef.toList ++ ([] : List Value) ++ eu.toList).toArray fd (fun n9 ik => ∃ (fy : Int), n9 = .returned (.int .i64 fy) ∧
 ik.cell? (blk w.heap.size) = some (.pointer ey) ∧
 Calls Try.prog 38 #[.pointer ey, .int .i64 fy] ik fun n8 gk => ∃ (c4 : Int), n8 = .returned (.int .i64 c4) ∧
 bif c4 != 0 then (
 R (.int .i64 c4) gk) else (
 ∃ li, li < iz ∧ I1 li [.int .i64 (IntKind.i64.wrap (ci + 1))] gk)) else (∃ (fy : Int) (f1 : World), (externCall dg (ef.toList ++ ([] : List Value) ++ eu.toList).toArray).run Try.prog fd = .ok (.int .i64 fy) f1 ∧
 f1.cell? (blk w.heap.size) = some (.pointer ey) ∧
 Calls Try.prog 38 #[.pointer ey, .int .i64 fy] f1 fun nv i1 => ∃ (cc : Int), nv = .returned (.int .i64 cc) ∧
 bif cc != 0 then (
 R (.int .i64 cc) i1) else (
 ∃ kc, kc < iz ∧ I1 kc [.int .i64 (IntKind.i64.wrap (ci + 1))] i1))) else (
 thenW (cy.drew) fun bg =>
 ∃ (l7 : Option Addr), bg.cell? (blk w.heap.size) = some (.pointer l7) ∧
 ∃ (iy : Option Addr), bg.cell? (blk w.heap.size) = some (.pointer iy) ∧
 ∃ (lf : Int), bg.cell? (blk a2.heap.size) = some (.int .u32 lf) ∧
 ∃ (j9 : Option Addr), bg.cell? (blk a1.heap.size) = some (.pointer j9) ∧
 l7.elim False fun ny =>
 canStore bg ((ny.add 2).add 0) ∧
 thenW (bg.setCell ((ny.add 2).add 0) (.int .u32 lf)) fun dt =>
 dt.cell? (blk a1.heap.size) = some (.pointer j9) ∧
 dt.cell? (blk w.heap.size) = some (.pointer iy) ∧
 iy.elim False fun kt =>
 canStore dt ((kt.add 3).add 0) ∧
 thenW (dt.setCell ((kt.add 3).add 0) (.pointer j9)) fun m7 =>
 R (.int .i64 0) m7))) ∧
 (thenW (a6.alloc (.cells #[.int .i64 0] 26)) fun ad =>
 ad.cell? (blk a2.heap.size) = some (.int .u32 ab) ∧
 ad.cell? (bu.add 1) = some (.int .i64 a0) ∧
 ad.cell? (blk w.heap.size) = some (.pointer br) ∧
 ad.cell? (blk a2.heap.size) = some (.int .u32 fz) ∧
 ad.cell? (blk w.heap.size) = some (.pointer g0) ∧
 ad.cell? (bt.add 0) = some (.pointer aa) ∧
 ad.cell? (blk w.heap.size) = some (.pointer bs) ∧
 Calls Try.prog 27 #[.pointer g0, .int .u32 fz] ad fun kn ak => ∃ (dk : Int), kn = .returned (.int .i64 dk) ∧
 ak.cell? (blk a2.heap.size) = some (.int .u32 ab) ∧
 ak.cell? (bu.add 1) = some (.int .i64 a0) ∧
 ak.cell? (blk w.heap.size) = some (.pointer br) ∧
 ak.cell? (bt.add 0) = some (.pointer aa) ∧
 ak.cell? (blk w.heap.size) = some (.pointer bs) ∧
 Calls Try.prog 29 #[.pointer aa, .int .i64 dk, .int .i64 a0, .int .u32 ab] ak fun ob gl => ∃ (aq : Option Addr) (ap : Int), ob = .returned (.tuple #[.pointer aq, .int .i64 ap]) ∧
 canStore gl ((blk a1.heap.size).add 0) ∧
 thenW (gl.setCell ((blk a1.heap.size).add 0) (.pointer aq)) fun ib =>
 canStore ib ((blk a6.heap.size).add 0) ∧
 thenW (ib.setCell ((blk a6.heap.size).add 0) (.int .i64 ap)) fun d9 =>
 ∃ (me : Option Addr), d9.cell? (blk w.heap.size) = some (.pointer me) ∧
 me.elim False fun ou =>
 ∃ (le : Option Addr), d9.cell? (ou.add 0) = some (.pointer le) ∧
 thenW (d9.alloc (.cells #[.func (.func 30) #[] #[.pointer (some (blk a6.heap.size))], .func (.func 31) #[] #[.pointer (some (blk a1.heap.size)), .pointer (some (blk d4.heap.size))], .func (.func 33) #[] #[.pointer (some (blk w.heap.size)), .pointer (some (blk a2.heap.size))], .func (.func 37) #[.pointer le] #[]] 68)) fun mr =>
 ∃ (I1 : Nat → List Value → World → Prop) (pl : Nat), I1 pl [.int .i64 0] mr ∧ ∀ (ja : Nat) (e0 : World) (cf : Int), I1 ja [.int .i64 cf] e0 →
 bif decide (cf < (4 : Int)) then (
 0 ≤ (cf : Int) ∧ (cf : Int) < (4 : Int) ∧
 ∃ (db : Nat) (es : Array Value) (f7 : Array Value), e0.cell? ((blk d9.heap.size).add (Int.toNat cf * 1)) = some (.func (.func db) es f7) ∧
 thenW (e0.drew) fun ed =>
 ∃ (en : Option Addr), ed.cell? (blk w.heap.size) = some (.pointer en) ∧
 bif enters Try.prog db then Calls Try.prog db (es.toList ++ ([] : List Value) ++ f7.toList).toArray ed (fun n4 i7 => ∃ (fq : Int), n4 = .returned (.int .i64 fq) ∧
 i7.cell? (blk w.heap.size) = some (.pointer en) ∧
 Calls Try.prog 38 #[.pointer en, .int .i64 fq] i7 fun ma i2 => ∃ (c5 : Int), ma = .returned (.int .i64 c5) ∧
 bif c5 != 0 then (
 R (.int .i64 c5) i2) else (
 ∃ kw, kw < ja ∧ I1 kw [.int .i64 (IntKind.i64.wrap (cf + 1))] i2)) else (∃ (fq : Int) (e7 : World), (externCall db (es.toList ++ ([] : List Value) ++ f7.toList).toArray).run Try.prog ed = .ok (.int .i64 fq) e7 ∧
 e7.cell? (blk w.heap.size) = some (.pointer en) ∧
 Calls Try.prog 38 #[.pointer en, .int .i64 fq] e7 fun m8 ip => ∃ (c7 : Int), m8 = .returned (.int .i64 c7) ∧
 bif c7 != 0 then (
 R (.int .i64 c7) ip) else (
 ∃ kk, kk < ja ∧ I1 kk [.int .i64 (IntKind.i64.wrap (cf + 1))] ip))) else (
 thenW (e0.drew) fun ai =>
 ∃ (l9 : Option Addr), ai.cell? (blk w.heap.size) = some (.pointer l9) ∧
 ∃ (iw : Option Addr), ai.cell? (blk w.heap.size) = some (.pointer iw) ∧
 ∃ (o9 : Int), ai.cell? (blk a2.heap.size) = some (.int .u32 o9) ∧
 ∃ (jl : Option Addr), ai.cell? (blk a1.heap.size) = some (.pointer jl) ∧
 l9.elim False fun mc =>
 canStore ai ((mc.add 2).add 0) ∧
 thenW (ai.setCell ((mc.add 2).add 0) (.int .u32 o9)) fun da =>
 da.cell? (blk a1.heap.size) = some (.pointer jl) ∧
 da.cell? (blk w.heap.size) = some (.pointer iw) ∧
 iw.elim False fun oa =>
 canStore da ((oa.add 3).add 0) ∧
 thenW (da.setCell ((oa.add 3).add 0) (.pointer jl)) fun ke =>
 R (.int .i64 0) ke))) ∧
 (thenW (a1.alloc (.cells #[.int .i64 0] 26)) fun a4 =>
 a4.cell? (blk a2.heap.size) = some (.int .u32 ab) ∧
 a4.cell? (bu.add 1) = some (.int .i64 a0) ∧
 a4.cell? (blk w.heap.size) = some (.pointer br) ∧
 a4.cell? (blk a2.heap.size) = some (.int .u32 fz) ∧
 a4.cell? (blk w.heap.size) = some (.pointer g0) ∧
 a4.cell? (bt.add 0) = some (.pointer aa) ∧
 a4.cell? (blk w.heap.size) = some (.pointer bs) ∧
 (Calls Try.prog 27 #[.pointer g0, .int .u32 fz] a4 fun l4 a5 => ∃ (bo : Int), l4 = .returned (.int .i64 bo) ∧
 a5.cell? (blk a2.heap.size) = some (.int .u32 ab) ∧
 a5.cell? (bu.add 1) = some (.int .i64 a0) ∧
 a5.cell? (blk w.heap.size) = some (.pointer br) ∧
 a5.cell? (bt.add 0) = some (.pointer aa) ∧
 a5.cell? (blk w.heap.size) = some (.pointer bs) ∧
 (Calls Try.prog 29 #[.pointer aa, .int .i64 bo, .int .i64 a0, .int .u32 ab] a5 fun lk au => ∃ (bd : Option Addr) (bf : Int), lk = .returned (.tuple #[.pointer bd, .int .i64 bf]) ∧
 thenW (au.alloc (.cells #[.pointer none] 58)) fun gh =>
 canStore gh ((blk au.heap.size).add 0) ∧
 thenW (gh.setCell ((blk au.heap.size).add 0) (.pointer bd)) fun im =>
 canStore im ((blk a1.heap.size).add 0) ∧
 thenW (im.setCell ((blk a1.heap.size).add 0) (.int .i64 bf)) fun d3 =>
 ∃ (ks : Option Addr), d3.cell? (blk w.heap.size) = some (.pointer ks) ∧
 ks.elim False fun pi =>
 ∃ (mh : Option Addr), d3.cell? (pi.add 0) = some (.pointer mh) ∧
 thenW (d3.alloc (.cells #[.func (.func 30) #[] #[.pointer (some (blk a1.heap.size))], .func (.func 31) #[] #[.pointer (some (blk au.heap.size)), .pointer (some (blk d4.heap.size))], .func (.func 33) #[] #[.pointer (some (blk w.heap.size)), .pointer (some (blk a2.heap.size))], .func (.func 37) #[.pointer mh] #[]] 68)) fun oj =>
 ∃ (I1 : Nat → List Value → World → Prop) (p5 : Nat), I1 p5 [.int .i64 0] oj ∧ ∀ (jz : Nat) (e1 : World) (c3 : Int), I1 jz [.int .i64 c3] e1 →
 bif decide (c3 < (4 : Int)) then (
 0 ≤ (c3 : Int) ∧ (c3 : Int) < (4 : Int) ∧
 ∃ (cw : Nat) (fr : Array Value) (fj : Array Value), e1.cell? ((blk d3.heap.size).add (Int.toNat c3 * 1)) = some (.func (.func cw) fr fj) ∧
 thenW (e1.drew) fun fb =>
 ∃ (el : Option Addr), fb.cell? (blk w.heap.size) = some (.pointer el) ∧
 bif enters Try.prog cw then Calls Try.prog cw (fr.toList ++ ([] : List Value) ++ fj.toList).toArray fb (fun kg ir => ∃ (eh : Int), kg = .returned (.int .i64 eh) ∧
 ir.cell? (blk w.heap.size) = some (.pointer el) ∧
 Calls Try.prog 38 #[.pointer el, .int .i64 eh] ir fun kr ic => ∃ (bw : Int), kr = .returned (.int .i64 bw) ∧
 bif bw != 0 then (
 R (.int .i64 bw) ic) else (
 ∃ mv, mv < jz ∧ I1 mv [.int .i64 (IntKind.i64.wrap (c3 + 1))] ic)) else (∃ (eh : Int) (fc : World), (externCall cw (fr.toList ++ ([] : List Value) ++ fj.toList).toArray).run Try.prog fb = .ok (.int .i64 eh) fc ∧
 fc.cell? (blk w.heap.size) = some (.pointer el) ∧
 Calls Try.prog 38 #[.pointer el, .int .i64 eh] fc fun kq ii => ∃ (cq : Int), kq = .returned (.int .i64 cq) ∧
 bif cq != 0 then (
 R (.int .i64 cq) ii) else (
 ∃ l2, l2 < jz ∧ I1 l2 [.int .i64 (IntKind.i64.wrap (c3 + 1))] ii))) else (
 thenW (e1.drew) fun al =>
 ∃ (kv : Option Addr), al.cell? (blk w.heap.size) = some (.pointer kv) ∧
 ∃ (j3 : Option Addr), al.cell? (blk w.heap.size) = some (.pointer j3) ∧
 ∃ (nk : Int), al.cell? (blk a2.heap.size) = some (.int .u32 nk) ∧
 ∃ (j0 : Option Addr), al.cell? (blk au.heap.size) = some (.pointer j0) ∧
 kv.elim False fun mx =>
 canStore al ((mx.add 2).add 0) ∧
 thenW (al.setCell ((mx.add 2).add 0) (.int .u32 nk)) fun d2 =>
 d2.cell? (blk au.heap.size) = some (.pointer j0) ∧
 d2.cell? (blk w.heap.size) = some (.pointer j3) ∧
 j3.elim False fun kd =>
 canStore d2 ((kd.add 3).add 0) ∧
 thenW (d2.setCell ((kd.add 3).add 0) (.pointer j0)) fun lw =>
 R (.int .i64 0) lw)) ∧
 (thenW (a5.alloc (.cells #[.pointer none] 58)) fun bm =>
 bm.cell? (blk a2.heap.size) = some (.int .u32 ab) ∧
 bm.cell? (bu.add 1) = some (.int .i64 a0) ∧
 bm.cell? (blk w.heap.size) = some (.pointer br) ∧
 bm.cell? (bt.add 0) = some (.pointer aa) ∧
 bm.cell? (blk w.heap.size) = some (.pointer bs) ∧
 Calls Try.prog 29 #[.pointer aa, .int .i64 bo, .int .i64 a0, .int .u32 ab] bm fun l0 i0 => ∃ (b9 : Option Addr) (b8 : Int), l0 = .returned (.tuple #[.pointer b9, .int .i64 b8]) ∧
 canStore i0 ((blk a5.heap.size).add 0) ∧
 thenW (i0.setCell ((blk a5.heap.size).add 0) (.pointer b9)) fun gr =>
 canStore gr ((blk a1.heap.size).add 0) ∧
 thenW (gr.setCell ((blk a1.heap.size).add 0) (.int .i64 b8)) fun d8 =>
 ∃ (mp : Option Addr), d8.cell? (blk w.heap.size) = some (.pointer mp) ∧
 mp.elim False fun oy =>
 ∃ (mo : Option Addr), d8.cell? (oy.add 0) = some (.pointer mo) ∧
 thenW (d8.alloc (.cells #[.func (.func 30) #[] #[.pointer (some (blk a1.heap.size))], .func (.func 31) #[] #[.pointer (some (blk a5.heap.size)), .pointer (some (blk d4.heap.size))], .func (.func 33) #[] #[.pointer (some (blk w.heap.size)), .pointer (some (blk a2.heap.size))], .func (.func 37) #[.pointer mo] #[]] 68)) fun ne =>
 ∃ (I1 : Nat → List Value → World → Prop) (ox : Nat), I1 ox [.int .i64 0] ne ∧ ∀ (j2 : Nat) (d0 : World) (ch : Int), I1 j2 [.int .i64 ch] d0 →
 bif decide (ch < (4 : Int)) then (
 0 ≤ (ch : Int) ∧ (ch : Int) < (4 : Int) ∧
 ∃ (ct : Nat) (ei : Array Value) (fp : Array Value), d0.cell? ((blk d8.heap.size).add (Int.toNat ch * 1)) = some (.func (.func ct) ei fp) ∧
 thenW (d0.drew) fun eo =>
 ∃ (fu : Option Addr), eo.cell? (blk w.heap.size) = some (.pointer fu) ∧
 bif enters Try.prog ct then Calls Try.prog ct (ei.toList ++ ([] : List Value) ++ fp.toList).toArray eo (fun o7 gm => ∃ (ek : Int), o7 = .returned (.int .i64 ek) ∧
 gm.cell? (blk w.heap.size) = some (.pointer fu) ∧
 Calls Try.prog 38 #[.pointer fu, .int .i64 ek] gm fun lt gt => ∃ (c0 : Int), lt = .returned (.int .i64 c0) ∧
 bif c0 != 0 then (
 R (.int .i64 c0) gt) else (
 ∃ k5, k5 < j2 ∧ I1 k5 [.int .i64 (IntKind.i64.wrap (ch + 1))] gt)) else (∃ (ek : Int) (ec : World), (externCall ct (ei.toList ++ ([] : List Value) ++ fp.toList).toArray).run Try.prog eo = .ok (.int .i64 ek) ec ∧
 ec.cell? (blk w.heap.size) = some (.pointer fu) ∧
 Calls Try.prog 38 #[.pointer fu, .int .i64 ek] ec fun k4 g9 => ∃ (cl : Int), k4 = .returned (.int .i64 cl) ∧
 bif cl != 0 then (
 R (.int .i64 cl) g9) else (
 ∃ lq, lq < j2 ∧ I1 lq [.int .i64 (IntKind.i64.wrap (ch + 1))] g9))) else (
 thenW (d0.drew) fun bb =>
 ∃ (ki : Option Addr), bb.cell? (blk w.heap.size) = some (.pointer ki) ∧
 ∃ (ji : Option Addr), bb.cell? (blk w.heap.size) = some (.pointer ji) ∧
 ∃ (ol : Int), bb.cell? (blk a2.heap.size) = some (.int .u32 ol) ∧
 ∃ (iu : Option Addr), bb.cell? (blk a5.heap.size) = some (.pointer iu) ∧
 ki.elim False fun o2 =>
 canStore bb ((o2.add 2).add 0) ∧
 thenW (bb.setCell ((o2.add 2).add 0) (.int .u32 ol)) fun cs =>
 cs.cell? (blk a5.heap.size) = some (.pointer iu) ∧
 cs.cell? (blk w.heap.size) = some (.pointer ji) ∧
 ji.elim False fun o8 =>
 canStore cs ((o8.add 3).add 0) ∧
 thenW (cs.setCell ((o8.add 3).add 0) (.pointer iu)) fun md =>
 R (.int .i64 0) md))) ∧
 (thenW (a4.alloc (.cells #[.pointer none] 58)) fun ae =>
 ae.cell? (blk a2.heap.size) = some (.int .u32 ab) ∧
 ae.cell? (bu.add 1) = some (.int .i64 a0) ∧
 ae.cell? (blk w.heap.size) = some (.pointer br) ∧
 ae.cell? (blk a2.heap.size) = some (.int .u32 fz) ∧
 ae.cell? (blk w.heap.size) = some (.pointer g0) ∧
 ae.cell? (bt.add 0) = some (.pointer aa) ∧
 ae.cell? (blk w.heap.size) = some (.pointer bs) ∧
 Calls Try.prog 27 #[.pointer g0, .int .u32 fz] ae fun k2 az => ∃ (dq : Int), k2 = .returned (.int .i64 dq) ∧
 az.cell? (blk a2.heap.size) = some (.int .u32 ab) ∧
 az.cell? (bu.add 1) = some (.int .i64 a0) ∧
 az.cell? (blk w.heap.size) = some (.pointer br) ∧
 az.cell? (bt.add 0) = some (.pointer aa) ∧
 az.cell? (blk w.heap.size) = some (.pointer bs) ∧
 Calls Try.prog 29 #[.pointer aa, .int .i64 dq, .int .i64 a0, .int .u32 ab] az fun ll gb => ∃ (bk : Option Addr) (b6 : Int), ll = .returned (.tuple #[.pointer bk, .int .i64 b6]) ∧
 canStore gb ((blk a4.heap.size).add 0) ∧
 thenW (gb.setCell ((blk a4.heap.size).add 0) (.pointer bk)) fun i5 =>
 canStore i5 ((blk a1.heap.size).add 0) ∧
 thenW (i5.setCell ((blk a1.heap.size).add 0) (.int .i64 b6)) fun d5 =>
 ∃ (nf : Option Addr), d5.cell? (blk w.heap.size) = some (.pointer nf) ∧
 nf.elim False fun ow =>
 ∃ (oc : Option Addr), d5.cell? (ow.add 0) = some (.pointer oc) ∧
 thenW (d5.alloc (.cells #[.func (.func 30) #[] #[.pointer (some (blk a1.heap.size))], .func (.func 31) #[] #[.pointer (some (blk a4.heap.size)), .pointer (some (blk d4.heap.size))], .func (.func 33) #[] #[.pointer (some (blk w.heap.size)), .pointer (some (blk a2.heap.size))], .func (.func 37) #[.pointer oc] #[]] 68)) fun nm =>
 ∃ (I1 : Nat → List Value → World → Prop) (p6 : Nat), I1 p6 [.int .i64 0] nm ∧ ∀ (jf : Nat) (dv : World) (c9 : Int), I1 jf [.int .i64 c9] dv →
 bif decide (c9 < (4 : Int)) then (
 0 ≤ (c9 : Int) ∧ (c9 : Int) < (4 : Int) ∧
 ∃ (e2 : Nat) (e9 : Array Value) (eg : Array Value), dv.cell? ((blk d5.heap.size).add (Int.toNat c9 * 1)) = some (.func (.func e2) e9 eg) ∧
 thenW (dv.drew) fun f6 =>
 ∃ (ea : Option Addr), f6.cell? (blk w.heap.size) = some (.pointer ea) ∧
 bif enters Try.prog e2 then Calls Try.prog e2 (e9.toList ++ ([] : List Value) ++ eg.toList).toArray f6 (fun lp ge => ∃ (ev : Int), lp = .returned (.int .i64 ev) ∧
 ge.cell? (blk w.heap.size) = some (.pointer ea) ∧
 Calls Try.prog 38 #[.pointer ea, .int .i64 ev] ge fun lb i9 => ∃ (ca : Int), lb = .returned (.int .i64 ca) ∧
 bif ca != 0 then (
 R (.int .i64 ca) i9) else (
 ∃ mu, mu < jf ∧ I1 mu [.int .i64 (IntKind.i64.wrap (c9 + 1))] i9)) else (∃ (ev : Int) (ej : World), (externCall e2 (e9.toList ++ ([] : List Value) ++ eg.toList).toArray).run Try.prog f6 = .ok (.int .i64 ev) ej ∧
 ej.cell? (blk w.heap.size) = some (.pointer ea) ∧
 Calls Try.prog 38 #[.pointer ea, .int .i64 ev] ej fun od gy => ∃ (co : Int), od = .returned (.int .i64 co) ∧
 bif co != 0 then (
 R (.int .i64 co) gy) else (
 ∃ n2, n2 < jf ∧ I1 n2 [.int .i64 (IntKind.i64.wrap (c9 + 1))] gy))) else (
 thenW (dv.drew) fun ao =>
 ∃ (lo : Option Addr), ao.cell? (blk w.heap.size) = some (.pointer lo) ∧
 ∃ (j5 : Option Addr), ao.cell? (blk w.heap.size) = some (.pointer j5) ∧
 ∃ (km : Int), ao.cell? (blk a2.heap.size) = some (.int .u32 km) ∧
 ∃ (jb : Option Addr), ao.cell? (blk a4.heap.size) = some (.pointer jb) ∧
 lo.elim False fun mb =>
 canStore ao ((mb.add 2).add 0) ∧
 thenW (ao.setCell ((mb.add 2).add 0) (.int .u32 km)) fun cv =>
 cv.cell? (blk a4.heap.size) = some (.pointer jb) ∧
 cv.cell? (blk w.heap.size) = some (.pointer j5) ∧
 j5.elim False fun op =>
 canStore cv ((op.add 3).add 0) ∧
 thenW (cv.setCell ((op.add 3).add 0) (.pointer jb)) fun n0 =>
 R (.int .i64 0) n0))))))))

theorem snapshot_Store_Compact.eq (s1 : Option Addr) (snap2a : Option Addr) (snap2n : Nat) (snap2c : Nat) (R : Value → World → Prop) (w : World) : mfunc Try.prog [(1, [2, 6, 7, 69, 70], [(71, (.one (.int .i64)))])] 10 [.pointer s1, .slice snap2a snap2n snap2c] R w = snapshot_Store_Compact.M s1 snap2a snap2n snap2c R w := by kernel_rfl
theorem snapshot_Store_Compact.ok (s1 : Option Addr) (a0 : Option Addr) (a1 : Nat) (a2 : Nat) {R : Value → World → Prop} {w : World} (h : snapshot_Store_Compact.M s1 a0 a1 a2 R w) : Calls Try.prog 10 #[.pointer s1, .slice a0 a1 a2] w fun e w' => ∃ v, e = .returned v ∧ R v w' :=
  mfunc_ok follows (H := [(1, [2, 6, 7, 69, 70], [(71, (.one (.int .i64)))])]) (args := [.pointer s1, .slice a0 a1 a2]) (by rw [snapshot_Store_Compact.eq]; exact h)

def snapshot_Store_Compact.N (s1 : Option Addr) (fq : Option Addr) (fk : Nat) (fj : Nat) (R : Value → World → Prop) (w : World) : Prop :=
 ∀ (g8 : World) (q4 : Nat), Ext no w g8 → Blk g8 q4 29 [.pointer s1] → w.heap.size ≤ q4 → q4 < g8.heap.size →
 ∀ (ci : World) (q6 : Nat), Ext no g8 ci → Blk ci q6 30 [.slice fq fk fj] → g8.heap.size ≤ q6 → q6 < ci.heap.size →
 ∃ (x8 : Option Addr), ci.cell? (blk q4) = some (.pointer x8) ∧
 (x8 = none →
 R (.int .i64 23) ci) ∧
 (x8 ≠ none →
 ∃ (gs : Option Addr) (eu : Nat) (gy : Nat), ci.cell? (blk q6) = some (.slice gs eu gy) ∧
 ((journal_Parts.F (eu : Int)) = 0 →
 ∀ (ca : World), Ext no ci ca →
 R (.int .i64 3) ca) ∧
 ((journal_Parts.F (eu : Int)) ≠ 0 →
 ∃ (i2 : Option Addr), ci.cell? (blk q4) = some (.pointer i2) ∧
 ∃ i5 : Addr, i2 = some i5 ∧
 ∃ (di : Bool), ci.cell? (i5.add 4) = some (.bool di) ∧
 (di = true →
 ∀ (ca : World), Ext no ci ca →
 R (.int .i64 19) ca) ∧
 (di = false →
 ∃ (i6 : Option Addr), ci.cell? (blk q4) = some (.pointer i6) ∧
 ∃ i0 : Addr, i6 = some i0 ∧
 ∃ (cb : Int), ci.cell? (i0.add 2) = some (.int .u32 cb) ∧
 (cb = 4294967295 →
 ∀ (ca : World), Ext no ci ca →
 R (.int .i64 2) ca) ∧
 (cb ≠ 4294967295 →
 ∃ (gz : Option Addr), ci.cell? (blk q4) = some (.pointer gz) ∧
 ∃ i1 : Addr, gz = some i1 ∧
 ∃ (dm : Int), ci.cell? (i1.add 1) = some (.int .i64 dm) ∧
 ((journal_Parts.F (eu : Int)) > dm →
 ∀ (ca : World), Ext no ci ca →
 R (.int .i64 18) ca) ∧
 ((journal_Parts.F (eu : Int)) ≤ dm →
 ∃ (i3 : Option Addr), ci.cell? (blk q4) = some (.pointer i3) ∧
 ∃ i4 : Addr, i3 = some i4 ∧
 ∃ (cu : Int), ci.cell? (i4.add 2) = some (.int .u32 cu) ∧
 ∀ (ev : World) (ai : Nat), Ext no ci ev → Blk ev ai 34 [.int .u32 0] → ci.heap.size ≤ ai → ai < ev.heap.size →
 canStore ev ((blk ai).add 0) ∧
 thenW (ev.setCell ((blk ai).add 0) (.int .u32 (IntKind.u32.wrap (cu + 1)))) fun bw =>
 ∃ (cx : Option Addr), bw.cell? (blk q4) = some (.pointer cx) ∧
 ∃ d8 : Addr, cx = some d8 ∧
 ∃ (bq : Option Addr), bw.cell? (d8.add 0) = some (.pointer bq) ∧
 ∃ (f7 : Option Addr), bw.cell? (blk q4) = some (.pointer f7) ∧
 ∃ (f6 : Int), bw.cell? (blk ai) = some (.int .u32 f6) ∧
 ∃ (d5 : Option Addr), bw.cell? (blk q4) = some (.pointer d5) ∧
 ∃ cy : Addr, d5 = some cy ∧
 ∃ (a0 : Int), bw.cell? (cy.add 1) = some (.int .i64 a0) ∧
 ∃ (bt : Int), bw.cell? (blk ai) = some (.int .u32 bt) ∧
 (∀ (fg : World) (fz : List Nat), Ext no bw fg → Priv bw fg fz →
 Calls Try.prog 27 #[.pointer f7, .int .u32 f6] fg fun gx ch => ∃ (br : Int), gx = .returned (.int .i64 br) ∧
 Keep fz fg ch ∧
 ch.cell? (blk ai) = some (.int .u32 bt) ∧
 ch.cell? (cy.add 1) = some (.int .i64 a0) ∧
 ch.cell? (blk q4) = some (.pointer d5) ∧
 ch.cell? (d8.add 0) = some (.pointer bq) ∧
 ch.cell? (blk q4) = some (.pointer cx) ∧
 (∀ (fa : World) (gp : List Nat), Ext (fun b => b ∈ fz) ch fa → PrivJ fz ch fa gp →
 Calls Try.prog 29 #[.pointer bq, .int .i64 br, .int .i64 a0, .int .u32 bt] fa fun gt fx => ∃ (c9 : Option Addr) (cd : Int), gt = .returned (.tuple #[.pointer c9, .int .i64 cd]) ∧
 Keep gp fa fx ∧
 (∀ (ae : World), Ext (fun b => b ∈ gp) fx ae →
 ∀ (c1 : World) (ds : Nat), Ext no ae c1 → Blk c1 ds 58 [.pointer none] → ae.heap.size ≤ ds → ds < c1.heap.size →
 ∀ (am : World) (dp : Nat), Ext no c1 am → Blk am dp 26 [.int .i64 0] → c1.heap.size ≤ dp → dp < am.heap.size →
 canStore am ((blk ds).add 0) ∧
 thenW (am.setCell ((blk ds).add 0) (.pointer c9)) fun bn =>
 canStore bn ((blk dp).add 0) ∧
 thenW (bn.setCell ((blk dp).add 0) (.int .i64 cd)) fun cr =>
 ∃ (gn : Option Addr), cr.cell? (blk q4) = some (.pointer gn) ∧
 ∃ gj : Addr, gn = some gj ∧
 ∃ (g6 : Option Addr), cr.cell? (gj.add 0) = some (.pointer g6) ∧
 ∀ (ah : World) (fb : Nat), Ext no cr ah → Blk ah fb 68 [.func (.func 30) #[] #[.pointer (some (blk dp))], .func (.func 31) #[] #[.pointer (some (blk ds)), .pointer (some (blk q6))], .func (.func 33) #[] #[.pointer (some (blk q4)), .pointer (some (blk ai))], .func (.func 37) #[.pointer g6] #[]] → cr.heap.size ≤ fb → fb < ah.heap.size →
 ∃ (I1 : Nat → List Value → World → Prop) (gu : Nat), I1 gu [.int .i64 0] ah ∧ ∀ (gf : Nat) (a2 : World) (ck : Int), I1 gf [.int .i64 ck] a2 →
 (ck < (4 : Int) →
 0 ≤ (ck : Int) ∧ (ck : Int) < (4 : Int) ∧
 ∃ (dj : Nat) (ei : Array Value) (eo : Array Value), a2.cell? ((blk fb).add (Int.toNat ck * 1)) = some (.func (.func dj) ei eo) ∧
 ∃ (fp : Option Addr), a2.cell? (blk q4) = some (.pointer fp) ∧
 ∀ (e8 : World), Ext no a2 e8 →
 enters Try.prog dj = true ∧ Calls Try.prog dj (ei.toList ++ ([] : List Value) ++ eo.toList).toArray e8 (fun fu al => ∃ (gm : Int), fu = .returned (.int .i64 gm) ∧
 al.cell? (blk q4) = some (.pointer fp) ∧
 Calls Try.prog 38 #[.pointer fp, .int .i64 gm] al fun ew ct => ∃ (az : Int), ew = .returned (.int .i64 az) ∧
 (az ≠ 0 →
 R (.int .i64 az) ct) ∧
 (az = 0 →
 (-9223372036854775808 : Int) ≤ (ck + 1) ∧ (ck + 1) < 9223372036854775808 ∧
 ∃ e3, e3 < gf ∧ I1 e3 [.int .i64 (ck + 1)] ct))) ∧
 ((4 : Int) ≤ ck →
 ∃ (bs : Option Addr), a2.cell? (blk q4) = some (.pointer bs) ∧
 ∃ (bj : Option Addr), a2.cell? (blk q4) = some (.pointer bj) ∧
 ∃ (et : Int), a2.cell? (blk ai) = some (.int .u32 et) ∧
 ∃ (d9 : Option Addr), a2.cell? (blk ds) = some (.pointer d9) ∧
 ∃ da : Addr, bs = some da ∧
 ∀ (a6 : World), Ext no a2 a6 →
 canStore a6 ((da.add 2).add 0) ∧
 thenW (a6.setCell ((da.add 2).add 0) (.int .u32 et)) fun ac =>
 ac.cell? (blk ds) = some (.pointer d9) ∧
 ac.cell? (blk q4) = some (.pointer bj) ∧
 ∃ dz : Addr, bj = some dz ∧
 canStore ac ((dz.add 3).add 0) ∧
 thenW (ac.setCell ((dz.add 3).add 0) (.pointer d9)) fun bc =>
 R (.int .i64 0) bc)) ∧
 (∀ (ae : World), Ext (fun b => b ∈ gp) fx ae →
 ∀ (c1 : World) (ds : Nat), Ext no ae c1 → Blk c1 ds 26 [.int .i64 0] → ae.heap.size ≤ ds → ds < c1.heap.size →
 ∀ (am : World) (dp : Nat), Ext no c1 am → Blk am dp 58 [.pointer none] → c1.heap.size ≤ dp → dp < am.heap.size →
 canStore am ((blk dp).add 0) ∧
 thenW (am.setCell ((blk dp).add 0) (.pointer c9)) fun bn =>
 canStore bn ((blk ds).add 0) ∧
 thenW (bn.setCell ((blk ds).add 0) (.int .i64 cd)) fun cr =>
 ∃ (gn : Option Addr), cr.cell? (blk q4) = some (.pointer gn) ∧
 ∃ gj : Addr, gn = some gj ∧
 ∃ (g6 : Option Addr), cr.cell? (gj.add 0) = some (.pointer g6) ∧
 ∀ (ah : World) (fb : Nat), Ext no cr ah → Blk ah fb 68 [.func (.func 30) #[] #[.pointer (some (blk ds))], .func (.func 31) #[] #[.pointer (some (blk dp)), .pointer (some (blk q6))], .func (.func 33) #[] #[.pointer (some (blk q4)), .pointer (some (blk ai))], .func (.func 37) #[.pointer g6] #[]] → cr.heap.size ≤ fb → fb < ah.heap.size →
 ∃ (I1 : Nat → List Value → World → Prop) (gu : Nat), I1 gu [.int .i64 0] ah ∧ ∀ (gf : Nat) (a2 : World) (ck : Int), I1 gf [.int .i64 ck] a2 →
 (ck < (4 : Int) →
 0 ≤ (ck : Int) ∧ (ck : Int) < (4 : Int) ∧
 ∃ (dj : Nat) (ei : Array Value) (eo : Array Value), a2.cell? ((blk fb).add (Int.toNat ck * 1)) = some (.func (.func dj) ei eo) ∧
 ∃ (fp : Option Addr), a2.cell? (blk q4) = some (.pointer fp) ∧
 ∀ (e8 : World), Ext no a2 e8 →
 enters Try.prog dj = true ∧ Calls Try.prog dj (ei.toList ++ ([] : List Value) ++ eo.toList).toArray e8 (fun fu al => ∃ (gm : Int), fu = .returned (.int .i64 gm) ∧
 al.cell? (blk q4) = some (.pointer fp) ∧
 Calls Try.prog 38 #[.pointer fp, .int .i64 gm] al fun ew ct => ∃ (az : Int), ew = .returned (.int .i64 az) ∧
 (az ≠ 0 →
 R (.int .i64 az) ct) ∧
 (az = 0 →
 (-9223372036854775808 : Int) ≤ (ck + 1) ∧ (ck + 1) < 9223372036854775808 ∧
 ∃ e3, e3 < gf ∧ I1 e3 [.int .i64 (ck + 1)] ct))) ∧
 ((4 : Int) ≤ ck →
 ∃ (bs : Option Addr), a2.cell? (blk q4) = some (.pointer bs) ∧
 ∃ (bj : Option Addr), a2.cell? (blk q4) = some (.pointer bj) ∧
 ∃ (et : Int), a2.cell? (blk ai) = some (.int .u32 et) ∧
 ∃ (d9 : Option Addr), a2.cell? (blk dp) = some (.pointer d9) ∧
 ∃ da : Addr, bs = some da ∧
 ∀ (a6 : World), Ext no a2 a6 →
 canStore a6 ((da.add 2).add 0) ∧
 thenW (a6.setCell ((da.add 2).add 0) (.int .u32 et)) fun ac =>
 ac.cell? (blk dp) = some (.pointer d9) ∧
 ac.cell? (blk q4) = some (.pointer bj) ∧
 ∃ dz : Addr, bj = some dz ∧
 canStore ac ((dz.add 3).add 0) ∧
 thenW (ac.setCell ((dz.add 3).add 0) (.pointer d9)) fun bc =>
 R (.int .i64 0) bc))) ∧
 (∀ (bb : World), Ext (fun b => b ∈ fz) ch bb →
 ∀ (a3 : World) (c8 : Nat), Ext no bb a3 → Blk a3 c8 58 [.pointer none] → bb.heap.size ≤ c8 → c8 < a3.heap.size →
 a3.cell? (blk ai) = some (.int .u32 bt) ∧
 a3.cell? (cy.add 1) = some (.int .i64 a0) ∧
 a3.cell? (blk q4) = some (.pointer d5) ∧
 a3.cell? (d8.add 0) = some (.pointer bq) ∧
 a3.cell? (blk q4) = some (.pointer cx) ∧
 (∀ (am : World) (fr : List Nat), Ext no a3 am → Priv a3 am fr →
 Calls Try.prog 29 #[.pointer bq, .int .i64 br, .int .i64 a0, .int .u32 bt] am fun df aj => ∃ (b3 : Option Addr) (b7 : Int), df = .returned (.tuple #[.pointer b3, .int .i64 b7]) ∧
 Keep fr am aj ∧
 ∀ (af : World), Ext (fun b => b ∈ fr) aj af →
 ∀ (cc : World) (e0 : Nat), Ext no af cc → Blk cc e0 26 [.int .i64 0] → af.heap.size ≤ e0 → e0 < cc.heap.size →
 canStore cc ((blk c8).add 0) ∧
 thenW (cc.setCell ((blk c8).add 0) (.pointer b3)) fun ab =>
 canStore ab ((blk e0).add 0) ∧
 thenW (ab.setCell ((blk e0).add 0) (.int .i64 b7)) fun cq =>
 ∃ (g2 : Option Addr), cq.cell? (blk q4) = some (.pointer g2) ∧
 ∃ g3 : Addr, g2 = some g3 ∧
 ∃ (gh : Option Addr), cq.cell? (g3.add 0) = some (.pointer gh) ∧
 ∀ (a2 : World) (fd : Nat), Ext no cq a2 → Blk a2 fd 68 [.func (.func 30) #[] #[.pointer (some (blk e0))], .func (.func 31) #[] #[.pointer (some (blk c8)), .pointer (some (blk q6))], .func (.func 33) #[] #[.pointer (some (blk q4)), .pointer (some (blk ai))], .func (.func 37) #[.pointer gh] #[]] → cq.heap.size ≤ fd → fd < a2.heap.size →
 ∃ (I1 : Nat → List Value → World → Prop) (gv : Nat), I1 gv [.int .i64 0] a2 ∧ ∀ (gc : Nat) (a7 : World) (co : Int), I1 gc [.int .i64 co] a7 →
 (co < (4 : Int) →
 0 ≤ (co : Int) ∧ (co : Int) < (4 : Int) ∧
 ∃ (dy : Nat) (ec : Array Value) (er : Array Value), a7.cell? ((blk fd).add (Int.toNat co * 1)) = some (.func (.func dy) ec er) ∧
 ∃ (db : Option Addr), a7.cell? (blk q4) = some (.pointer db) ∧
 ∀ (al : World), Ext no a7 al →
 enters Try.prog dy = true ∧ Calls Try.prog dy (ec.toList ++ ([] : List Value) ++ er.toList).toArray al (fun e9 a1 => ∃ (eh : Int), e9 = .returned (.int .i64 eh) ∧
 a1.cell? (blk q4) = some (.pointer db) ∧
 Calls Try.prog 38 #[.pointer db, .int .i64 eh] a1 fun ea b8 => ∃ (au : Int), ea = .returned (.int .i64 au) ∧
 (au ≠ 0 →
 R (.int .i64 au) b8) ∧
 (au = 0 →
 (-9223372036854775808 : Int) ≤ (co + 1) ∧ (co + 1) < 9223372036854775808 ∧
 ∃ e4, e4 < gc ∧ I1 e4 [.int .i64 (co + 1)] b8))) ∧
 ((4 : Int) ≤ co →
 ∃ (eg : Option Addr), a7.cell? (blk q4) = some (.pointer eg) ∧
 ∃ (c0 : Option Addr), a7.cell? (blk q4) = some (.pointer c0) ∧
 ∃ (bv : Int), a7.cell? (blk ai) = some (.int .u32 bv) ∧
 ∃ (bx : Option Addr), a7.cell? (blk c8) = some (.pointer bx) ∧
 ∃ dx : Addr, eg = some dx ∧
 ∀ (ap : World), Ext no a7 ap →
 canStore ap ((dx.add 2).add 0) ∧
 thenW (ap.setCell ((dx.add 2).add 0) (.int .u32 bv)) fun ae =>
 ae.cell? (blk c8) = some (.pointer bx) ∧
 ae.cell? (blk q4) = some (.pointer c0) ∧
 ∃ e2 : Addr, c0 = some e2 ∧
 canStore ae ((e2.add 3).add 0) ∧
 thenW (ae.setCell ((e2.add 3).add 0) (.pointer bx)) fun e5 =>
 R (.int .i64 0) e5)) ∧
 (∀ (ak : World) (du : Nat), Ext no a3 ak → Blk ak du 26 [.int .i64 0] → a3.heap.size ≤ du → du < ak.heap.size →
 ak.cell? (blk ai) = some (.int .u32 bt) ∧
 ak.cell? (cy.add 1) = some (.int .i64 a0) ∧
 ak.cell? (blk q4) = some (.pointer d5) ∧
 ak.cell? (d8.add 0) = some (.pointer bq) ∧
 ak.cell? (blk q4) = some (.pointer cx) ∧
 ∀ (ab : World) (fs : List Nat), Ext no ak ab → Priv ak ab fs →
 Calls Try.prog 29 #[.pointer bq, .int .i64 br, .int .i64 a0, .int .u32 bt] ab fun ft bi => ∃ (ba : Option Addr) (b5 : Int), ft = .returned (.tuple #[.pointer ba, .int .i64 b5]) ∧
 Keep fs ab bi ∧
 ∀ (c2 : World), Ext (fun b => b ∈ fs) bi c2 →
 canStore c2 ((blk c8).add 0) ∧
 thenW (c2.setCell ((blk c8).add 0) (.pointer ba)) fun f4 =>
 canStore f4 ((blk du).add 0) ∧
 thenW (f4.setCell ((blk du).add 0) (.int .i64 b5)) fun bh =>
 ∃ (gg : Option Addr), bh.cell? (blk q4) = some (.pointer gg) ∧
 ∃ g1 : Addr, gg = some g1 ∧
 ∃ (g5 : Option Addr), bh.cell? (g1.add 0) = some (.pointer g5) ∧
 ∀ (a7 : World) (f9 : Nat), Ext no bh a7 → Blk a7 f9 68 [.func (.func 30) #[] #[.pointer (some (blk du))], .func (.func 31) #[] #[.pointer (some (blk c8)), .pointer (some (blk q6))], .func (.func 33) #[] #[.pointer (some (blk q4)), .pointer (some (blk ai))], .func (.func 37) #[.pointer g5] #[]] → bh.heap.size ≤ f9 → f9 < a7.heap.size →
 ∃ (I1 : Nat → List Value → World → Prop) (gw : Nat), I1 gw [.int .i64 0] a7 ∧ ∀ (g9 : Nat) (ax : World) (cj : Int), I1 g9 [.int .i64 cj] ax →
 (cj < (4 : Int) →
 0 ≤ (cj : Int) ∧ (cj : Int) < (4 : Int) ∧
 ∃ (c4 : Nat) (cz : Array Value) (d3 : Array Value), ax.cell? ((blk f9).add (Int.toNat cj * 1)) = some (.func (.func c4) cz d3) ∧
 ∃ (dd : Option Addr), ax.cell? (blk q4) = some (.pointer dd) ∧
 ∀ (a1 : World), Ext no ax a1 →
 enters Try.prog c4 = true ∧ Calls Try.prog c4 (cz.toList ++ ([] : List Value) ++ d3.toList).toArray a1 (fun ed d2 => ∃ (ej : Int), ed = .returned (.int .i64 ej) ∧
 d2.cell? (blk q4) = some (.pointer dd) ∧
 Calls Try.prog 38 #[.pointer dd, .int .i64 ej] d2 fun c5 a5 => ∃ (av : Int), c5 = .returned (.int .i64 av) ∧
 (av ≠ 0 →
 R (.int .i64 av) a5) ∧
 (av = 0 →
 (-9223372036854775808 : Int) ≤ (cj + 1) ∧ (cj + 1) < 9223372036854775808 ∧
 ∃ f5, f5 < g9 ∧ I1 f5 [.int .i64 (cj + 1)] a5))) ∧
 ((4 : Int) ≤ cj →
 ∃ (e7 : Option Addr), ax.cell? (blk q4) = some (.pointer e7) ∧
 ∃ (bu : Option Addr), ax.cell? (blk q4) = some (.pointer bu) ∧
 ∃ (b0 : Int), ax.cell? (blk ai) = some (.int .u32 b0) ∧
 ∃ (an : Option Addr), ax.cell? (blk c8) = some (.pointer an) ∧
 ∃ dv : Addr, e7 = some dv ∧
 ∀ (ac : World), Ext no ax ac →
 canStore ac ((dv.add 2).add 0) ∧
 thenW (ac.setCell ((dv.add 2).add 0) (.int .u32 b0)) fun af =>
 af.cell? (blk c8) = some (.pointer an) ∧
 af.cell? (blk q4) = some (.pointer bu) ∧
 ∃ bo : Addr, bu = some bo ∧
 canStore af ((bo.add 3).add 0) ∧
 thenW (af.setCell ((bo.add 3).add 0) (.pointer an)) fun ao =>
 R (.int .i64 0) ao))) ∧
 (∀ (bb : World), Ext (fun b => b ∈ fz) ch bb →
 ∀ (a3 : World) (c8 : Nat), Ext no bb a3 → Blk a3 c8 26 [.int .i64 0] → bb.heap.size ≤ c8 → c8 < a3.heap.size →
 a3.cell? (blk ai) = some (.int .u32 bt) ∧
 a3.cell? (cy.add 1) = some (.int .i64 a0) ∧
 a3.cell? (blk q4) = some (.pointer d5) ∧
 a3.cell? (d8.add 0) = some (.pointer bq) ∧
 a3.cell? (blk q4) = some (.pointer cx) ∧
 (∀ (am : World) (fr : List Nat), Ext no a3 am → Priv a3 am fr →
 Calls Try.prog 29 #[.pointer bq, .int .i64 br, .int .i64 a0, .int .u32 bt] am fun df aj => ∃ (b3 : Option Addr) (b7 : Int), df = .returned (.tuple #[.pointer b3, .int .i64 b7]) ∧
 Keep fr am aj ∧
 ∀ (af : World), Ext (fun b => b ∈ fr) aj af →
 ∀ (cc : World) (e0 : Nat), Ext no af cc → Blk cc e0 58 [.pointer none] → af.heap.size ≤ e0 → e0 < cc.heap.size →
 canStore cc ((blk e0).add 0) ∧
 thenW (cc.setCell ((blk e0).add 0) (.pointer b3)) fun ab =>
 canStore ab ((blk c8).add 0) ∧
 thenW (ab.setCell ((blk c8).add 0) (.int .i64 b7)) fun cq =>
 ∃ (g2 : Option Addr), cq.cell? (blk q4) = some (.pointer g2) ∧
 ∃ g3 : Addr, g2 = some g3 ∧
 ∃ (gh : Option Addr), cq.cell? (g3.add 0) = some (.pointer gh) ∧
 ∀ (a2 : World) (fd : Nat), Ext no cq a2 → Blk a2 fd 68 [.func (.func 30) #[] #[.pointer (some (blk c8))], .func (.func 31) #[] #[.pointer (some (blk e0)), .pointer (some (blk q6))], .func (.func 33) #[] #[.pointer (some (blk q4)), .pointer (some (blk ai))], .func (.func 37) #[.pointer gh] #[]] → cq.heap.size ≤ fd → fd < a2.heap.size →
 ∃ (I1 : Nat → List Value → World → Prop) (gv : Nat), I1 gv [.int .i64 0] a2 ∧ ∀ (gc : Nat) (a7 : World) (co : Int), I1 gc [.int .i64 co] a7 →
 (co < (4 : Int) →
 0 ≤ (co : Int) ∧ (co : Int) < (4 : Int) ∧
 ∃ (dy : Nat) (ec : Array Value) (er : Array Value), a7.cell? ((blk fd).add (Int.toNat co * 1)) = some (.func (.func dy) ec er) ∧
 ∃ (db : Option Addr), a7.cell? (blk q4) = some (.pointer db) ∧
 ∀ (al : World), Ext no a7 al →
 enters Try.prog dy = true ∧ Calls Try.prog dy (ec.toList ++ ([] : List Value) ++ er.toList).toArray al (fun e9 a1 => ∃ (eh : Int), e9 = .returned (.int .i64 eh) ∧
 a1.cell? (blk q4) = some (.pointer db) ∧
 Calls Try.prog 38 #[.pointer db, .int .i64 eh] a1 fun ea b8 => ∃ (au : Int), ea = .returned (.int .i64 au) ∧
 (au ≠ 0 →
 R (.int .i64 au) b8) ∧
 (au = 0 →
 (-9223372036854775808 : Int) ≤ (co + 1) ∧ (co + 1) < 9223372036854775808 ∧
 ∃ e4, e4 < gc ∧ I1 e4 [.int .i64 (co + 1)] b8))) ∧
 ((4 : Int) ≤ co →
 ∃ (eg : Option Addr), a7.cell? (blk q4) = some (.pointer eg) ∧
 ∃ (c0 : Option Addr), a7.cell? (blk q4) = some (.pointer c0) ∧
 ∃ (bv : Int), a7.cell? (blk ai) = some (.int .u32 bv) ∧
 ∃ (bx : Option Addr), a7.cell? (blk e0) = some (.pointer bx) ∧
 ∃ dx : Addr, eg = some dx ∧
 ∀ (ap : World), Ext no a7 ap →
 canStore ap ((dx.add 2).add 0) ∧
 thenW (ap.setCell ((dx.add 2).add 0) (.int .u32 bv)) fun ae =>
 ae.cell? (blk e0) = some (.pointer bx) ∧
 ae.cell? (blk q4) = some (.pointer c0) ∧
 ∃ e2 : Addr, c0 = some e2 ∧
 canStore ae ((e2.add 3).add 0) ∧
 thenW (ae.setCell ((e2.add 3).add 0) (.pointer bx)) fun e5 =>
 R (.int .i64 0) e5)) ∧
 (∀ (ak : World) (du : Nat), Ext no a3 ak → Blk ak du 58 [.pointer none] → a3.heap.size ≤ du → du < ak.heap.size →
 ak.cell? (blk ai) = some (.int .u32 bt) ∧
 ak.cell? (cy.add 1) = some (.int .i64 a0) ∧
 ak.cell? (blk q4) = some (.pointer d5) ∧
 ak.cell? (d8.add 0) = some (.pointer bq) ∧
 ak.cell? (blk q4) = some (.pointer cx) ∧
 ∀ (ab : World) (fs : List Nat), Ext no ak ab → Priv ak ab fs →
 Calls Try.prog 29 #[.pointer bq, .int .i64 br, .int .i64 a0, .int .u32 bt] ab fun ft bi => ∃ (ba : Option Addr) (b5 : Int), ft = .returned (.tuple #[.pointer ba, .int .i64 b5]) ∧
 Keep fs ab bi ∧
 ∀ (c2 : World), Ext (fun b => b ∈ fs) bi c2 →
 canStore c2 ((blk du).add 0) ∧
 thenW (c2.setCell ((blk du).add 0) (.pointer ba)) fun f4 =>
 canStore f4 ((blk c8).add 0) ∧
 thenW (f4.setCell ((blk c8).add 0) (.int .i64 b5)) fun bh =>
 ∃ (gg : Option Addr), bh.cell? (blk q4) = some (.pointer gg) ∧
 ∃ g1 : Addr, gg = some g1 ∧
 ∃ (g5 : Option Addr), bh.cell? (g1.add 0) = some (.pointer g5) ∧
 ∀ (a7 : World) (f9 : Nat), Ext no bh a7 → Blk a7 f9 68 [.func (.func 30) #[] #[.pointer (some (blk c8))], .func (.func 31) #[] #[.pointer (some (blk du)), .pointer (some (blk q6))], .func (.func 33) #[] #[.pointer (some (blk q4)), .pointer (some (blk ai))], .func (.func 37) #[.pointer g5] #[]] → bh.heap.size ≤ f9 → f9 < a7.heap.size →
 ∃ (I1 : Nat → List Value → World → Prop) (gw : Nat), I1 gw [.int .i64 0] a7 ∧ ∀ (g9 : Nat) (ax : World) (cj : Int), I1 g9 [.int .i64 cj] ax →
 (cj < (4 : Int) →
 0 ≤ (cj : Int) ∧ (cj : Int) < (4 : Int) ∧
 ∃ (c4 : Nat) (cz : Array Value) (d3 : Array Value), ax.cell? ((blk f9).add (Int.toNat cj * 1)) = some (.func (.func c4) cz d3) ∧
 ∃ (dd : Option Addr), ax.cell? (blk q4) = some (.pointer dd) ∧
 ∀ (a1 : World), Ext no ax a1 →
 enters Try.prog c4 = true ∧ Calls Try.prog c4 (cz.toList ++ ([] : List Value) ++ d3.toList).toArray a1 (fun ed d2 => ∃ (ej : Int), ed = .returned (.int .i64 ej) ∧
 d2.cell? (blk q4) = some (.pointer dd) ∧
 Calls Try.prog 38 #[.pointer dd, .int .i64 ej] d2 fun c5 a5 => ∃ (av : Int), c5 = .returned (.int .i64 av) ∧
 (av ≠ 0 →
 R (.int .i64 av) a5) ∧
 (av = 0 →
 (-9223372036854775808 : Int) ≤ (cj + 1) ∧ (cj + 1) < 9223372036854775808 ∧
 ∃ f5, f5 < g9 ∧ I1 f5 [.int .i64 (cj + 1)] a5))) ∧
 ((4 : Int) ≤ cj →
 ∃ (e7 : Option Addr), ax.cell? (blk q4) = some (.pointer e7) ∧
 ∃ (bu : Option Addr), ax.cell? (blk q4) = some (.pointer bu) ∧
 ∃ (b0 : Int), ax.cell? (blk ai) = some (.int .u32 b0) ∧
 ∃ (an : Option Addr), ax.cell? (blk du) = some (.pointer an) ∧
 ∃ dv : Addr, e7 = some dv ∧
 ∀ (ac : World), Ext no ax ac →
 canStore ac ((dv.add 2).add 0) ∧
 thenW (ac.setCell ((dv.add 2).add 0) (.int .u32 b0)) fun af =>
 af.cell? (blk du) = some (.pointer an) ∧
 af.cell? (blk q4) = some (.pointer bu) ∧
 ∃ bo : Addr, bu = some bo ∧
 canStore af ((bo.add 3).add 0) ∧
 thenW (af.setCell ((bo.add 3).add 0) (.pointer an)) fun ao =>
 R (.int .i64 0) ao)))) ∧
 (∀ (a8 : World) (bl : Nat), Ext no bw a8 → Blk a8 bl 58 [.pointer none] → bw.heap.size ≤ bl → bl < a8.heap.size →
 a8.cell? (blk ai) = some (.int .u32 bt) ∧
 a8.cell? (cy.add 1) = some (.int .i64 a0) ∧
 a8.cell? (blk q4) = some (.pointer d5) ∧
 a8.cell? (blk ai) = some (.int .u32 f6) ∧
 a8.cell? (blk q4) = some (.pointer f7) ∧
 a8.cell? (d8.add 0) = some (.pointer bq) ∧
 a8.cell? (blk q4) = some (.pointer cx) ∧
 (∀ (a3 : World) (f3 : List Nat), Ext no a8 a3 → Priv a8 a3 f3 →
 Calls Try.prog 27 #[.pointer f7, .int .u32 f6] a3 fun fv aw => ∃ (bm : Int), fv = .returned (.int .i64 bm) ∧
 Keep f3 a3 aw ∧
 aw.cell? (blk ai) = some (.int .u32 bt) ∧
 aw.cell? (cy.add 1) = some (.int .i64 a0) ∧
 aw.cell? (blk q4) = some (.pointer d5) ∧
 aw.cell? (d8.add 0) = some (.pointer bq) ∧
 aw.cell? (blk q4) = some (.pointer cx) ∧
 (∀ (bn : World) (fh : List Nat), Ext (fun b => b ∈ f3) aw bn → PrivJ f3 aw bn fh →
 Calls Try.prog 29 #[.pointer bq, .int .i64 bm, .int .i64 a0, .int .u32 bt] bn fun fm ez => ∃ (be : Option Addr) (b9 : Int), fm = .returned (.tuple #[.pointer be, .int .i64 b9]) ∧
 Keep fh bn ez ∧
 ∀ (ad : World), Ext (fun b => b ∈ fh) ez ad →
 ∀ (ab : World) (dh : Nat), Ext no ad ab → Blk ab dh 26 [.int .i64 0] → ad.heap.size ≤ dh → dh < ab.heap.size →
 canStore ab ((blk bl).add 0) ∧
 thenW (ab.setCell ((blk bl).add 0) (.pointer be)) fun ah =>
 canStore ah ((blk dh).add 0) ∧
 thenW (ah.setCell ((blk dh).add 0) (.int .i64 b9)) fun cm =>
 ∃ (gi : Option Addr), cm.cell? (blk q4) = some (.pointer gi) ∧
 ∃ ge : Addr, gi = some ge ∧
 ∃ (ga : Option Addr), cm.cell? (ge.add 0) = some (.pointer ga) ∧
 ∀ (bk : World) (fc : Nat), Ext no cm bk → Blk bk fc 68 [.func (.func 30) #[] #[.pointer (some (blk dh))], .func (.func 31) #[] #[.pointer (some (blk bl)), .pointer (some (blk q6))], .func (.func 33) #[] #[.pointer (some (blk q4)), .pointer (some (blk ai))], .func (.func 37) #[.pointer ga] #[]] → cm.heap.size ≤ fc → fc < bk.heap.size →
 ∃ (I1 : Nat → List Value → World → Prop) (gr : Nat), I1 gr [.int .i64 0] bk ∧ ∀ (g0 : Nat) (aa : World) (cl : Int), I1 g0 [.int .i64 cl] aa →
 (cl < (4 : Int) →
 0 ≤ (cl : Int) ∧ (cl : Int) < (4 : Int) ∧
 ∃ (dw : Nat) (en : Array Value) (es : Array Value), aa.cell? ((blk fc).add (Int.toNat cl * 1)) = some (.func (.func dw) en es) ∧
 ∃ (dk : Option Addr), aa.cell? (blk q4) = some (.pointer dk) ∧
 ∀ (cs : World), Ext no aa cs →
 enters Try.prog dw = true ∧ Calls Try.prog dw (en.toList ++ ([] : List Value) ++ es.toList).toArray cs (fun ey a6 => ∃ (ee : Int), ey = .returned (.int .i64 ee) ∧
 a6.cell? (blk q4) = some (.pointer dk) ∧
 Calls Try.prog 38 #[.pointer dk, .int .i64 ee] a6 fun el d6 => ∃ (aq : Int), el = .returned (.int .i64 aq) ∧
 (aq ≠ 0 →
 R (.int .i64 aq) d6) ∧
 (aq = 0 →
 (-9223372036854775808 : Int) ≤ (cl + 1) ∧ (cl + 1) < 9223372036854775808 ∧
 ∃ f0, f0 < g0 ∧ I1 f0 [.int .i64 (cl + 1)] d6))) ∧
 ((4 : Int) ≤ cl →
 ∃ (c0 : Option Addr), aa.cell? (blk q4) = some (.pointer c0) ∧
 ∃ (bv : Option Addr), aa.cell? (blk q4) = some (.pointer bv) ∧
 ∃ (bx : Int), aa.cell? (blk ai) = some (.int .u32 bx) ∧
 ∃ (dr : Option Addr), aa.cell? (blk bl) = some (.pointer dr) ∧
 ∃ dq : Addr, c0 = some dq ∧
 ∀ (a5 : World), Ext no aa a5 →
 canStore a5 ((dq.add 2).add 0) ∧
 thenW (a5.setCell ((dq.add 2).add 0) (.int .u32 bx)) fun bp =>
 bp.cell? (blk bl) = some (.pointer dr) ∧
 bp.cell? (blk q4) = some (.pointer bv) ∧
 ∃ dg : Addr, bv = some dg ∧
 canStore bp ((dg.add 3).add 0) ∧
 thenW (bp.setCell ((dg.add 3).add 0) (.pointer dr)) fun ef =>
 R (.int .i64 0) ef)) ∧
 (∀ (b4 : World), Ext (fun b => b ∈ f3) aw b4 →
 ∀ (a4 : World) (dn : Nat), Ext no b4 a4 → Blk a4 dn 26 [.int .i64 0] → b4.heap.size ≤ dn → dn < a4.heap.size →
 a4.cell? (blk ai) = some (.int .u32 bt) ∧
 a4.cell? (cy.add 1) = some (.int .i64 a0) ∧
 a4.cell? (blk q4) = some (.pointer d5) ∧
 a4.cell? (d8.add 0) = some (.pointer bq) ∧
 a4.cell? (blk q4) = some (.pointer cx) ∧
 ∀ (ah : World) (fi : List Nat), Ext no a4 ah → Priv a4 ah fi →
 Calls Try.prog 29 #[.pointer bq, .int .i64 bm, .int .i64 a0, .int .u32 bt] ah fun fl bh => ∃ (b2 : Option Addr) (bf : Int), fl = .returned (.tuple #[.pointer b2, .int .i64 bf]) ∧
 Keep fi ah bh ∧
 ∀ (c6 : World), Ext (fun b => b ∈ fi) bh c6 →
 canStore c6 ((blk bl).add 0) ∧
 thenW (c6.setCell ((blk bl).add 0) (.pointer b2)) fun a2 =>
 canStore a2 ((blk dn).add 0) ∧
 thenW (a2.setCell ((blk dn).add 0) (.int .i64 bf)) fun bg =>
 ∃ (gd : Option Addr), bg.cell? (blk q4) = some (.pointer gd) ∧
 ∃ g7 : Addr, gd = some g7 ∧
 ∃ (g4 : Option Addr), bg.cell? (g7.add 0) = some (.pointer g4) ∧
 ∀ (aa : World) (fe : Nat), Ext no bg aa → Blk aa fe 68 [.func (.func 30) #[] #[.pointer (some (blk dn))], .func (.func 31) #[] #[.pointer (some (blk bl)), .pointer (some (blk q6))], .func (.func 33) #[] #[.pointer (some (blk q4)), .pointer (some (blk ai))], .func (.func 37) #[.pointer g4] #[]] → bg.heap.size ≤ fe → fe < aa.heap.size →
 ∃ (I1 : Nat → List Value → World → Prop) (gq : Nat), I1 gq [.int .i64 0] aa ∧ ∀ (f1 : Nat) (a9 : World) (cp : Int), I1 f1 [.int .i64 cp] a9 →
 (cp < (4 : Int) →
 0 ≤ (cp : Int) ∧ (cp : Int) < (4 : Int) ∧
 ∃ (c7 : Nat) (d7 : Array Value) (cw : Array Value), a9.cell? ((blk fe).add (Int.toNat cp * 1)) = some (.func (.func c7) d7 cw) ∧
 ∃ (bs : Option Addr), a9.cell? (blk q4) = some (.pointer bs) ∧
 ∀ (a6 : World), Ext no a9 a6 →
 enters Try.prog c7 = true ∧ Calls Try.prog c7 (d7.toList ++ ([] : List Value) ++ cw.toList).toArray a6 (fun ek ap => ∃ (e6 : Int), ek = .returned (.int .i64 e6) ∧
 ap.cell? (blk q4) = some (.pointer bs) ∧
 Calls Try.prog 38 #[.pointer bs, .int .i64 e6] ap fun eq cv => ∃ (ay : Int), eq = .returned (.int .i64 ay) ∧
 (ay ≠ 0 →
 R (.int .i64 ay) cv) ∧
 (ay = 0 →
 (-9223372036854775808 : Int) ≤ (cp + 1) ∧ (cp + 1) < 9223372036854775808 ∧
 ∃ ex, ex < f1 ∧ I1 ex [.int .i64 (cp + 1)] cv))) ∧
 ((4 : Int) ≤ cp →
 ∃ (bu : Option Addr), a9.cell? (blk q4) = some (.pointer bu) ∧
 ∃ (b0 : Option Addr), a9.cell? (blk q4) = some (.pointer b0) ∧
 ∃ (an : Int), a9.cell? (blk ai) = some (.int .u32 an) ∧
 ∃ (bz : Option Addr), a9.cell? (blk bl) = some (.pointer bz) ∧
 ∃ dl : Addr, bu = some dl ∧
 ∀ (cf : World), Ext no a9 cf →
 canStore cf ((dl.add 2).add 0) ∧
 thenW (cf.setCell ((dl.add 2).add 0) (.int .u32 an)) fun ad =>
 ad.cell? (blk bl) = some (.pointer bz) ∧
 ad.cell? (blk q4) = some (.pointer b0) ∧
 ∃ e1 : Addr, b0 = some e1 ∧
 canStore ad ((e1.add 3).add 0) ∧
 thenW (ad.setCell ((e1.add 3).add 0) (.pointer bz)) fun bb =>
 R (.int .i64 0) bb))) ∧
 (∀ (ag : World) (dt : Nat), Ext no a8 ag → Blk ag dt 26 [.int .i64 0] → a8.heap.size ≤ dt → dt < ag.heap.size →
 ag.cell? (blk ai) = some (.int .u32 bt) ∧
 ag.cell? (cy.add 1) = some (.int .i64 a0) ∧
 ag.cell? (blk q4) = some (.pointer d5) ∧
 ag.cell? (blk ai) = some (.int .u32 f6) ∧
 ag.cell? (blk q4) = some (.pointer f7) ∧
 ag.cell? (d8.add 0) = some (.pointer bq) ∧
 ag.cell? (blk q4) = some (.pointer cx) ∧
 ∀ (a4 : World) (ff : List Nat), Ext no ag a4 → Priv ag a4 ff →
 Calls Try.prog 27 #[.pointer f7, .int .u32 f6] a4 fun df aj => ∃ (cg : Int), df = .returned (.int .i64 cg) ∧
 Keep ff a4 aj ∧
 aj.cell? (blk ai) = some (.int .u32 bt) ∧
 aj.cell? (cy.add 1) = some (.int .i64 a0) ∧
 aj.cell? (blk q4) = some (.pointer d5) ∧
 aj.cell? (d8.add 0) = some (.pointer bq) ∧
 aj.cell? (blk q4) = some (.pointer cx) ∧
 ∀ (bi : World) (fy : List Nat), Ext (fun b => b ∈ ff) aj bi → PrivJ ff aj bi fy →
 Calls Try.prog 29 #[.pointer bq, .int .i64 cg, .int .i64 a0, .int .u32 bt] bi fun fw bg => ∃ (b6 : Option Addr) (bd : Int), fw = .returned (.tuple #[.pointer b6, .int .i64 bd]) ∧
 Keep fy bi bg ∧
 ∀ (c3 : World), Ext (fun b => b ∈ fy) bg c3 →
 canStore c3 ((blk bl).add 0) ∧
 thenW (c3.setCell ((blk bl).add 0) (.pointer b6)) fun bk =>
 canStore bk ((blk dt).add 0) ∧
 thenW (bk.setCell ((blk dt).add 0) (.int .i64 bd)) fun cn =>
 ∃ (gb : Option Addr), cn.cell? (blk q4) = some (.pointer gb) ∧
 ∃ gk : Addr, gb = some gk ∧
 ∃ (gl : Option Addr), cn.cell? (gk.add 0) = some (.pointer gl) ∧
 ∀ (al : World) (f8 : Nat), Ext no cn al → Blk al f8 68 [.func (.func 30) #[] #[.pointer (some (blk dt))], .func (.func 31) #[] #[.pointer (some (blk bl)), .pointer (some (blk q6))], .func (.func 33) #[] #[.pointer (some (blk q4)), .pointer (some (blk ai))], .func (.func 37) #[.pointer gl] #[]] → cn.heap.size ≤ f8 → f8 < al.heap.size →
 ∃ (I1 : Nat → List Value → World → Prop) (fo : Nat), I1 fo [.int .i64 0] al ∧ ∀ (f2 : Nat) (a1 : World) (ar : Int), I1 f2 [.int .i64 ar] a1 →
 (ar < (4 : Int) →
 0 ≤ (ar : Int) ∧ (ar : Int) < (4 : Int) ∧
 ∃ (ce : Nat) (d0 : Array Value) (d1 : Array Value), a1.cell? ((blk f8).add (Int.toNat ar * 1)) = some (.func (.func ce) d0 d1) ∧
 ∃ (bj : Option Addr), a1.cell? (blk q4) = some (.pointer bj) ∧
 ∀ (b8 : World), Ext no a1 b8 →
 enters Try.prog ce = true ∧ Calls Try.prog ce (d0.toList ++ ([] : List Value) ++ d1.toList).toArray b8 (fun c5 a5 => ∃ (em : Int), c5 = .returned (.int .i64 em) ∧
 a5.cell? (blk q4) = some (.pointer bj) ∧
 Calls Try.prog 38 #[.pointer bj, .int .i64 em] a5 fun eb d4 => ∃ (b1 : Int), eb = .returned (.int .i64 b1) ∧
 (b1 ≠ 0 →
 R (.int .i64 b1) d4) ∧
 (b1 = 0 →
 (-9223372036854775808 : Int) ≤ (ar + 1) ∧ (ar + 1) < 9223372036854775808 ∧
 ∃ ep, ep < f2 ∧ I1 ep [.int .i64 (ar + 1)] d4))) ∧
 ((4 : Int) ≤ ar →
 ∃ (b0 : Option Addr), a1.cell? (blk q4) = some (.pointer b0) ∧
 ∃ (an : Option Addr), a1.cell? (blk q4) = some (.pointer an) ∧
 ∃ (bz : Int), a1.cell? (blk ai) = some (.int .u32 bz) ∧
 ∃ (de : Option Addr), a1.cell? (blk bl) = some (.pointer de) ∧
 ∃ bo : Addr, b0 = some bo ∧
 ∀ (bc : World), Ext no a1 bc →
 canStore bc ((bo.add 2).add 0) ∧
 thenW (bc.setCell ((bo.add 2).add 0) (.int .u32 bz)) fun ao =>
 ao.cell? (blk bl) = some (.pointer de) ∧
 ao.cell? (blk q4) = some (.pointer an) ∧
 ∃ dc : Addr, an = some dc ∧
 canStore ao ((dc.add 3).add 0) ∧
 thenW (ao.setCell ((dc.add 3).add 0) (.pointer de)) fun b4 =>
 R (.int .i64 0) b4))) ∧
 (∀ (a8 : World) (bl : Nat), Ext no bw a8 → Blk a8 bl 26 [.int .i64 0] → bw.heap.size ≤ bl → bl < a8.heap.size →
 a8.cell? (blk ai) = some (.int .u32 bt) ∧
 a8.cell? (cy.add 1) = some (.int .i64 a0) ∧
 a8.cell? (blk q4) = some (.pointer d5) ∧
 a8.cell? (blk ai) = some (.int .u32 f6) ∧
 a8.cell? (blk q4) = some (.pointer f7) ∧
 a8.cell? (d8.add 0) = some (.pointer bq) ∧
 a8.cell? (blk q4) = some (.pointer cx) ∧
 (∀ (a3 : World) (f3 : List Nat), Ext no a8 a3 → Priv a8 a3 f3 →
 Calls Try.prog 27 #[.pointer f7, .int .u32 f6] a3 fun fv aw => ∃ (bm : Int), fv = .returned (.int .i64 bm) ∧
 Keep f3 a3 aw ∧
 aw.cell? (blk ai) = some (.int .u32 bt) ∧
 aw.cell? (cy.add 1) = some (.int .i64 a0) ∧
 aw.cell? (blk q4) = some (.pointer d5) ∧
 aw.cell? (d8.add 0) = some (.pointer bq) ∧
 aw.cell? (blk q4) = some (.pointer cx) ∧
 (∀ (bn : World) (fh : List Nat), Ext (fun b => b ∈ f3) aw bn → PrivJ f3 aw bn fh →
 Calls Try.prog 29 #[.pointer bq, .int .i64 bm, .int .i64 a0, .int .u32 bt] bn fun fm ez => ∃ (be : Option Addr) (b9 : Int), fm = .returned (.tuple #[.pointer be, .int .i64 b9]) ∧
 Keep fh bn ez ∧
 ∀ (ad : World), Ext (fun b => b ∈ fh) ez ad →
 ∀ (ab : World) (dh : Nat), Ext no ad ab → Blk ab dh 58 [.pointer none] → ad.heap.size ≤ dh → dh < ab.heap.size →
 canStore ab ((blk dh).add 0) ∧
 thenW (ab.setCell ((blk dh).add 0) (.pointer be)) fun ah =>
 canStore ah ((blk bl).add 0) ∧
 thenW (ah.setCell ((blk bl).add 0) (.int .i64 b9)) fun cm =>
 ∃ (gi : Option Addr), cm.cell? (blk q4) = some (.pointer gi) ∧
 ∃ ge : Addr, gi = some ge ∧
 ∃ (ga : Option Addr), cm.cell? (ge.add 0) = some (.pointer ga) ∧
 ∀ (bk : World) (fc : Nat), Ext no cm bk → Blk bk fc 68 [.func (.func 30) #[] #[.pointer (some (blk bl))], .func (.func 31) #[] #[.pointer (some (blk dh)), .pointer (some (blk q6))], .func (.func 33) #[] #[.pointer (some (blk q4)), .pointer (some (blk ai))], .func (.func 37) #[.pointer ga] #[]] → cm.heap.size ≤ fc → fc < bk.heap.size →
 ∃ (I1 : Nat → List Value → World → Prop) (gr : Nat), I1 gr [.int .i64 0] bk ∧ ∀ (g0 : Nat) (aa : World) (cl : Int), I1 g0 [.int .i64 cl] aa →
 (cl < (4 : Int) →
 0 ≤ (cl : Int) ∧ (cl : Int) < (4 : Int) ∧
 ∃ (dw : Nat) (en : Array Value) (es : Array Value), aa.cell? ((blk fc).add (Int.toNat cl * 1)) = some (.func (.func dw) en es) ∧
 ∃ (dk : Option Addr), aa.cell? (blk q4) = some (.pointer dk) ∧
 ∀ (cs : World), Ext no aa cs →
 enters Try.prog dw = true ∧ Calls Try.prog dw (en.toList ++ ([] : List Value) ++ es.toList).toArray cs (fun ey a6 => ∃ (ee : Int), ey = .returned (.int .i64 ee) ∧
 a6.cell? (blk q4) = some (.pointer dk) ∧
 Calls Try.prog 38 #[.pointer dk, .int .i64 ee] a6 fun el d6 => ∃ (aq : Int), el = .returned (.int .i64 aq) ∧
 (aq ≠ 0 →
 R (.int .i64 aq) d6) ∧
 (aq = 0 →
 (-9223372036854775808 : Int) ≤ (cl + 1) ∧ (cl + 1) < 9223372036854775808 ∧
 ∃ f0, f0 < g0 ∧ I1 f0 [.int .i64 (cl + 1)] d6))) ∧
 ((4 : Int) ≤ cl →
 ∃ (c0 : Option Addr), aa.cell? (blk q4) = some (.pointer c0) ∧
 ∃ (bv : Option Addr), aa.cell? (blk q4) = some (.pointer bv) ∧
 ∃ (bx : Int), aa.cell? (blk ai) = some (.int .u32 bx) ∧
 ∃ (dr : Option Addr), aa.cell? (blk dh) = some (.pointer dr) ∧
 ∃ dq : Addr, c0 = some dq ∧
 ∀ (a5 : World), Ext no aa a5 →
 canStore a5 ((dq.add 2).add 0) ∧
 thenW (a5.setCell ((dq.add 2).add 0) (.int .u32 bx)) fun bp =>
 bp.cell? (blk dh) = some (.pointer dr) ∧
 bp.cell? (blk q4) = some (.pointer bv) ∧
 ∃ dg : Addr, bv = some dg ∧
 canStore bp ((dg.add 3).add 0) ∧
 thenW (bp.setCell ((dg.add 3).add 0) (.pointer dr)) fun ef =>
 R (.int .i64 0) ef)) ∧
 (∀ (b4 : World), Ext (fun b => b ∈ f3) aw b4 →
 ∀ (a4 : World) (dn : Nat), Ext no b4 a4 → Blk a4 dn 58 [.pointer none] → b4.heap.size ≤ dn → dn < a4.heap.size →
 a4.cell? (blk ai) = some (.int .u32 bt) ∧
 a4.cell? (cy.add 1) = some (.int .i64 a0) ∧
 a4.cell? (blk q4) = some (.pointer d5) ∧
 a4.cell? (d8.add 0) = some (.pointer bq) ∧
 a4.cell? (blk q4) = some (.pointer cx) ∧
 ∀ (ah : World) (fi : List Nat), Ext no a4 ah → Priv a4 ah fi →
 Calls Try.prog 29 #[.pointer bq, .int .i64 bm, .int .i64 a0, .int .u32 bt] ah fun fl bh => ∃ (b2 : Option Addr) (bf : Int), fl = .returned (.tuple #[.pointer b2, .int .i64 bf]) ∧
 Keep fi ah bh ∧
 ∀ (c6 : World), Ext (fun b => b ∈ fi) bh c6 →
 canStore c6 ((blk dn).add 0) ∧
 thenW (c6.setCell ((blk dn).add 0) (.pointer b2)) fun a2 =>
 canStore a2 ((blk bl).add 0) ∧
 thenW (a2.setCell ((blk bl).add 0) (.int .i64 bf)) fun bg =>
 ∃ (gd : Option Addr), bg.cell? (blk q4) = some (.pointer gd) ∧
 ∃ g7 : Addr, gd = some g7 ∧
 ∃ (g4 : Option Addr), bg.cell? (g7.add 0) = some (.pointer g4) ∧
 ∀ (aa : World) (fe : Nat), Ext no bg aa → Blk aa fe 68 [.func (.func 30) #[] #[.pointer (some (blk bl))], .func (.func 31) #[] #[.pointer (some (blk dn)), .pointer (some (blk q6))], .func (.func 33) #[] #[.pointer (some (blk q4)), .pointer (some (blk ai))], .func (.func 37) #[.pointer g4] #[]] → bg.heap.size ≤ fe → fe < aa.heap.size →
 ∃ (I1 : Nat → List Value → World → Prop) (gq : Nat), I1 gq [.int .i64 0] aa ∧ ∀ (f1 : Nat) (a9 : World) (cp : Int), I1 f1 [.int .i64 cp] a9 →
 (cp < (4 : Int) →
 0 ≤ (cp : Int) ∧ (cp : Int) < (4 : Int) ∧
 ∃ (c7 : Nat) (d7 : Array Value) (cw : Array Value), a9.cell? ((blk fe).add (Int.toNat cp * 1)) = some (.func (.func c7) d7 cw) ∧
 ∃ (bs : Option Addr), a9.cell? (blk q4) = some (.pointer bs) ∧
 ∀ (a6 : World), Ext no a9 a6 →
 enters Try.prog c7 = true ∧ Calls Try.prog c7 (d7.toList ++ ([] : List Value) ++ cw.toList).toArray a6 (fun ek ap => ∃ (e6 : Int), ek = .returned (.int .i64 e6) ∧
 ap.cell? (blk q4) = some (.pointer bs) ∧
 Calls Try.prog 38 #[.pointer bs, .int .i64 e6] ap fun eq cv => ∃ (ay : Int), eq = .returned (.int .i64 ay) ∧
 (ay ≠ 0 →
 R (.int .i64 ay) cv) ∧
 (ay = 0 →
 (-9223372036854775808 : Int) ≤ (cp + 1) ∧ (cp + 1) < 9223372036854775808 ∧
 ∃ ex, ex < f1 ∧ I1 ex [.int .i64 (cp + 1)] cv))) ∧
 ((4 : Int) ≤ cp →
 ∃ (bu : Option Addr), a9.cell? (blk q4) = some (.pointer bu) ∧
 ∃ (b0 : Option Addr), a9.cell? (blk q4) = some (.pointer b0) ∧
 ∃ (an : Int), a9.cell? (blk ai) = some (.int .u32 an) ∧
 ∃ (bz : Option Addr), a9.cell? (blk dn) = some (.pointer bz) ∧
 ∃ dl : Addr, bu = some dl ∧
 ∀ (cf : World), Ext no a9 cf →
 canStore cf ((dl.add 2).add 0) ∧
 thenW (cf.setCell ((dl.add 2).add 0) (.int .u32 an)) fun ad =>
 ad.cell? (blk dn) = some (.pointer bz) ∧
 ad.cell? (blk q4) = some (.pointer b0) ∧
 ∃ e1 : Addr, b0 = some e1 ∧
 canStore ad ((e1.add 3).add 0) ∧
 thenW (ad.setCell ((e1.add 3).add 0) (.pointer bz)) fun bb =>
 R (.int .i64 0) bb))) ∧
 (∀ (ag : World) (dt : Nat), Ext no a8 ag → Blk ag dt 58 [.pointer none] → a8.heap.size ≤ dt → dt < ag.heap.size →
 ag.cell? (blk ai) = some (.int .u32 bt) ∧
 ag.cell? (cy.add 1) = some (.int .i64 a0) ∧
 ag.cell? (blk q4) = some (.pointer d5) ∧
 ag.cell? (blk ai) = some (.int .u32 f6) ∧
 ag.cell? (blk q4) = some (.pointer f7) ∧
 ag.cell? (d8.add 0) = some (.pointer bq) ∧
 ag.cell? (blk q4) = some (.pointer cx) ∧
 ∀ (a4 : World) (ff : List Nat), Ext no ag a4 → Priv ag a4 ff →
 Calls Try.prog 27 #[.pointer f7, .int .u32 f6] a4 fun df aj => ∃ (cg : Int), df = .returned (.int .i64 cg) ∧
 Keep ff a4 aj ∧
 aj.cell? (blk ai) = some (.int .u32 bt) ∧
 aj.cell? (cy.add 1) = some (.int .i64 a0) ∧
 aj.cell? (blk q4) = some (.pointer d5) ∧
 aj.cell? (d8.add 0) = some (.pointer bq) ∧
 aj.cell? (blk q4) = some (.pointer cx) ∧
 ∀ (bi : World) (fy : List Nat), Ext (fun b => b ∈ ff) aj bi → PrivJ ff aj bi fy →
 Calls Try.prog 29 #[.pointer bq, .int .i64 cg, .int .i64 a0, .int .u32 bt] bi fun fw bg => ∃ (b6 : Option Addr) (bd : Int), fw = .returned (.tuple #[.pointer b6, .int .i64 bd]) ∧
 Keep fy bi bg ∧
 ∀ (c3 : World), Ext (fun b => b ∈ fy) bg c3 →
 canStore c3 ((blk dt).add 0) ∧
 thenW (c3.setCell ((blk dt).add 0) (.pointer b6)) fun bk =>
 canStore bk ((blk bl).add 0) ∧
 thenW (bk.setCell ((blk bl).add 0) (.int .i64 bd)) fun cn =>
 ∃ (gb : Option Addr), cn.cell? (blk q4) = some (.pointer gb) ∧
 ∃ gk : Addr, gb = some gk ∧
 ∃ (gl : Option Addr), cn.cell? (gk.add 0) = some (.pointer gl) ∧
 ∀ (al : World) (f8 : Nat), Ext no cn al → Blk al f8 68 [.func (.func 30) #[] #[.pointer (some (blk bl))], .func (.func 31) #[] #[.pointer (some (blk dt)), .pointer (some (blk q6))], .func (.func 33) #[] #[.pointer (some (blk q4)), .pointer (some (blk ai))], .func (.func 37) #[.pointer gl] #[]] → cn.heap.size ≤ f8 → f8 < al.heap.size →
 ∃ (I1 : Nat → List Value → World → Prop) (fo : Nat), I1 fo [.int .i64 0] al ∧ ∀ (f2 : Nat) (a1 : World) (ar : Int), I1 f2 [.int .i64 ar] a1 →
 (ar < (4 : Int) →
 0 ≤ (ar : Int) ∧ (ar : Int) < (4 : Int) ∧
 ∃ (ce : Nat) (d0 : Array Value) (d1 : Array Value), a1.cell? ((blk f8).add (Int.toNat ar * 1)) = some (.func (.func ce) d0 d1) ∧
 ∃ (bj : Option Addr), a1.cell? (blk q4) = some (.pointer bj) ∧
 ∀ (b8 : World), Ext no a1 b8 →
 enters Try.prog ce = true ∧ Calls Try.prog ce (d0.toList ++ ([] : List Value) ++ d1.toList).toArray b8 (fun c5 a5 => ∃ (em : Int), c5 = .returned (.int .i64 em) ∧
 a5.cell? (blk q4) = some (.pointer bj) ∧
 Calls Try.prog 38 #[.pointer bj, .int .i64 em] a5 fun eb d4 => ∃ (b1 : Int), eb = .returned (.int .i64 b1) ∧
 (b1 ≠ 0 →
 R (.int .i64 b1) d4) ∧
 (b1 = 0 →
 (-9223372036854775808 : Int) ≤ (ar + 1) ∧ (ar + 1) < 9223372036854775808 ∧
 ∃ ep, ep < f2 ∧ I1 ep [.int .i64 (ar + 1)] d4))) ∧
 ((4 : Int) ≤ ar →
 ∃ (b0 : Option Addr), a1.cell? (blk q4) = some (.pointer b0) ∧
 ∃ (an : Option Addr), a1.cell? (blk q4) = some (.pointer an) ∧
 ∃ (bz : Int), a1.cell? (blk ai) = some (.int .u32 bz) ∧
 ∃ (de : Option Addr), a1.cell? (blk dt) = some (.pointer de) ∧
 ∃ bo : Addr, b0 = some bo ∧
 ∀ (bc : World), Ext no a1 bc →
 canStore bc ((bo.add 2).add 0) ∧
 thenW (bc.setCell ((bo.add 2).add 0) (.int .u32 bz)) fun ao =>
 ao.cell? (blk dt) = some (.pointer de) ∧
 ao.cell? (blk q4) = some (.pointer an) ∧
 ∃ dc : Addr, an = some dc ∧
 canStore ao ((dc.add 3).add 0) ∧
 thenW (ao.setCell ((dc.add 3).add 0) (.pointer de)) fun b4 =>
 R (.int .i64 0) b4))))))))

theorem snapshot_Store_Compact.up (s1 : Option Addr) (dg : Option Addr) (dx : Nat) (ej : Nat) {R : Value → World → Prop} {w : World} (h : snapshot_Store_Compact.N s1 dg dx ej R w) : snapshot_Store_Compact.M s1 dg dx ej R w := by
  unfold snapshot_Store_Compact.M
  unfold snapshot_Store_Compact.N at h
  refine thenW_in fun jq e3 => ?_
  have h := h jq w.heap.size ((Ext.refl no w).x_alloc e3) (Blk.of_new e3) ((Ext.refl no w)).size (size_lt_alloc e3)
  refine thenW_in fun m6 e5 => ?_
  have h := h m6 jq.heap.size ((Ext.refl no jq).x_alloc e5) (Blk.of_new e5) ((Ext.refl no jq)).size (size_lt_alloc e5)
  obtain ⟨x8, mi, h⟩ := h
  refine ⟨x8, mi, ?_⟩
  refine bif_of (fun c9 => ?_) (fun c9 => ?_)
  · have h := h.1 (isNone_t c9)
    exact h
  · have h := h.2 (isNone_f c9)
    obtain ⟨jz, g9, lg, ln, h⟩ := h
    refine ⟨jz, g9, lg, ln, ?_⟩
    refine (journal_Parts.pure (g9 : Int)).mono fun ee ww12 ⟨he, hxx⟩ => ⟨(journal_Parts.F (g9 : Int)), he, ?_⟩
    have ac := (Ext.refl no m6).trans hxx
    refine bif_of (fun lo => ?_) (fun lo => ?_)
    · have h := h.1 (beq_t lo)
      have h := h ww12 ac
      exact h
    · have h := h.2 (beq_f lo)
      obtain ⟨mm, km, h⟩ := h
      refine ⟨mm, (ac).cell km id, ?_⟩
      obtain ⟨mw, ls, h⟩ := h
      refine elim_some ls ?_
      obtain ⟨fi, ke, h⟩ := h
      refine ⟨fi, (ac).cell ke id, ?_⟩
      refine bif_of (fun k0 => ?_) (fun k0 => ?_)
      · have h := h.1 k0
        have h := h ww12 ac
        exact h
      · have h := h.2 k0
        obtain ⟨mg, l1, h⟩ := h
        refine ⟨mg, (ac).cell l1 id, ?_⟩
        obtain ⟨mu, ks, h⟩ := h
        refine elim_some ks ?_
        obtain ⟨dp, lq, h⟩ := h
        refine ⟨dp, (ac).cell lq id, ?_⟩
        refine bif_of (fun k3 => ?_) (fun k3 => ?_)
        · have h := h.1 (beq_t k3)
          have h := h ww12 ac
          exact h
        · have h := h.2 (beq_f k3)
          obtain ⟨m7, kh, h⟩ := h
          refine ⟨m7, (ac).cell kh id, ?_⟩
          obtain ⟨mv, kl, h⟩ := h
          refine elim_some kl ?_
          obtain ⟨it, m1, h⟩ := h
          refine ⟨it, (ac).cell m1 id, ?_⟩
          refine bif_of (fun k9 => ?_) (fun k9 => ?_)
          · have h := h.1 (of_decide_eq_true k9)
            have h := h ww12 ac
            exact h
          · have h := h.2 (Int.not_lt.1 (of_decide_eq_false k9))
            obtain ⟨mf, kq, h⟩ := h
            refine ⟨mf, (ac).cell kq id, ?_⟩
            obtain ⟨mt, k6, h⟩ := h
            refine elim_some k6 ?_
            obtain ⟨dy, k5, h⟩ := h
            refine ⟨dy, (ac).cell k5 id, ?_⟩
            refine thenW_in fun m0 lj => ?_
            have h := h m0 ww12.heap.size (ac.x_alloc lj) (Blk.of_new lj) (ac).size (size_lt_alloc lj)
            obtain ⟨hcs, h⟩ := h
            refine ⟨hcs, thenW_in fun lw mb => ?_⟩
            replace h := thenW_out h mb
            refine thenW_in fun ig mj => ?_
            have aj := (Ext.refl no lw).x_drew mj
            obtain ⟨m9, lb, h⟩ := h
            refine ⟨m9, (aj).cell lb id, ?_⟩
            obtain ⟨mx, k8, h⟩ := h
            refine elim_some k8 ?_
            obtain ⟨md, l6, h⟩ := h
            refine ⟨md, (aj).cell l6 id, ?_⟩
            obtain ⟨mr, l5, h⟩ := h
            refine ⟨mr, (aj).cell l5 id, ?_⟩
            obtain ⟨mn, k4, h⟩ := h
            refine ⟨mn, (aj).cell k4 id, ?_⟩
            obtain ⟨mo, ky, h⟩ := h
            refine ⟨mo, (aj).cell ky id, ?_⟩
            obtain ⟨ms, m3, h⟩ := h
            refine elim_some m3 ?_
            obtain ⟨gx, kz, h⟩ := h
            refine ⟨gx, (aj).cell kz id, ?_⟩
            obtain ⟨mk, l8, h⟩ := h
            refine ⟨mk, (aj).cell l8 id, ?_⟩
            obtain ⟨h0', h1', h2'⟩ := h
            refine ⟨?_, ?_, ?_⟩
            · have h := h0'
              have h := h ig [] aj Priv.nil
              refine h.mono fun mh ai h => ?_
              obtain ⟨gj, he, hkL, h⟩ := h
              refine ⟨gj, he, ?_⟩
              obtain ⟨f3, f8, e8, eh, kg, h⟩ := h
              refine ⟨f3, f8, e8, eh, kg, ?_⟩
              obtain ⟨h0', h1', h2'⟩ := h
              refine ⟨?_, ?_, ?_⟩
              · have h := h0'
                have h := h ai [] (Ext.refl (fun b => b ∈ ([] : List Nat)) ai) PrivJ.nil
                refine h.mono fun ma bk h => ?_
                obtain ⟨e9, ef, he, hkL, h⟩ := h
                refine ⟨e9, ef, he, ?_⟩
                obtain ⟨h0', h1'⟩ := h
                refine ⟨?_, ?_⟩
                · have h := h0'
                  have h := h bk (Ext.refl (fun b => b ∈ ([] : List Nat)) bk)
                  refine thenW_in fun bm gf => ?_
                  have h := h bm bk.heap.size ((Ext.refl no bk).x_alloc gf) (Blk.of_new gf) ((Ext.refl no bk)).size (size_lt_alloc gf)
                  refine thenW_in fun ga g6 => ?_
                  have h := h ga bm.heap.size ((Ext.refl no bm).x_alloc g6) (Blk.of_new g6) ((Ext.refl no bm)).size (size_lt_alloc g6)
                  obtain ⟨hcs, h⟩ := h
                  refine ⟨hcs, thenW_in fun kc lu => ?_⟩
                  replace h := thenW_out h lu
                  obtain ⟨hcs, h⟩ := h
                  refine ⟨hcs, thenW_in fun d4 ki => ?_⟩
                  replace h := thenW_out h ki
                  obtain ⟨kd, gp, h⟩ := h
                  refine ⟨kd, gp, ?_⟩
                  obtain ⟨me, i4, h⟩ := h
                  refine elim_some i4 ?_
                  obtain ⟨jv, iz, h⟩ := h
                  refine ⟨jv, iz, ?_⟩
                  refine thenW_in fun ev ea => ?_
                  have h := h ev d4.heap.size ((Ext.refl no d4).x_alloc ea) (Blk.of_new ea) ((Ext.refl no d4)).size (size_lt_alloc ea)
                  obtain ⟨I1, lr, h0, h⟩ := h
                  refine ⟨I1, lr, h0, fun k2 ah jt hI => ?_⟩
                  have h := h k2 ah jt hI
                  refine bif_of (fun gl => ?_) (fun gl => ?_)
                  · have h := h.1 (of_decide_eq_true gl)
                    obtain ⟨al, aw, h⟩ := h
                    refine ⟨al, aw, ?_⟩
                    obtain ⟨gs, im, g5, cy, h⟩ := h
                    refine ⟨gs, im, g5, cy, ?_⟩
                    refine thenW_in fun fc lh => ?_
                    have ew := (Ext.refl no ah).x_drew lh
                    obtain ⟨jy, c5, h⟩ := h
                    refine ⟨jy, (ew).cell c5 id, ?_⟩
                    have h := h fc ew
                    obtain ⟨hen, h⟩ := h
                    refine bif_tt hen ?_
                    refine h.mono fun la bl h => ?_
                    obtain ⟨kw, he, h⟩ := h
                    refine ⟨kw, he, ?_⟩
                    obtain ⟨fq, h⟩ := h
                    refine ⟨fq, ?_⟩
                    refine h.mono fun je j6 h => ?_
                    obtain ⟨cv, he, h⟩ := h
                    refine ⟨cv, he, ?_⟩
                    refine bif_of (fun ca => ?_) (fun ca => ?_)
                    · have h := h.1 (bne_t ca)
                      exact h
                    · have h := h.2 (bne_f ca)
                      obtain ⟨am, bj, h⟩ := h
                      try rw [w64 am bj]
                      obtain ⟨fv, hk, h⟩ := h
                      exact ⟨fv, hk, h⟩
                  · have h := h.2 (Int.not_lt.1 (of_decide_eq_false gl))
                    refine thenW_in fun ab cj => ?_
                    have a0 := (Ext.refl no ah).x_drew cj
                    obtain ⟨bu, b6, h⟩ := h
                    refine ⟨bu, (a0).cell b6 id, ?_⟩
                    obtain ⟨bx, b4, h⟩ := h
                    refine ⟨bx, (a0).cell b4 id, ?_⟩
                    obtain ⟨fp, er, h⟩ := h
                    refine ⟨fp, (a0).cell er id, ?_⟩
                    obtain ⟨gg, dj, h⟩ := h
                    refine ⟨gg, (a0).cell dj id, ?_⟩
                    obtain ⟨li, dh, h⟩ := h
                    refine elim_some dh ?_
                    have h := h ab a0
                    obtain ⟨hcs, h⟩ := h
                    refine ⟨hcs, thenW_in fun bn ce => ?_⟩
                    replace h := thenW_out h ce
                    obtain ⟨ey, f1, h⟩ := h
                    refine ⟨ey, f1, ?_⟩
                    obtain ⟨ka, dv, h⟩ := h
                    refine elim_some dv ?_
                    obtain ⟨hcs, h⟩ := h
                    refine ⟨hcs, thenW_in fun br bz => ?_⟩
                    replace h := thenW_out h bz
                    exact h
                · have h := h1'
                  have h := h bk (Ext.refl (fun b => b ∈ ([] : List Nat)) bk)
                  refine thenW_in fun bm gf => ?_
                  have h := h bm bk.heap.size ((Ext.refl no bk).x_alloc gf) (Blk.of_new gf) ((Ext.refl no bk)).size (size_lt_alloc gf)
                  refine thenW_in fun ga g6 => ?_
                  have h := h ga bm.heap.size ((Ext.refl no bm).x_alloc g6) (Blk.of_new g6) ((Ext.refl no bm)).size (size_lt_alloc g6)
                  obtain ⟨hcs, h⟩ := h
                  refine ⟨hcs, thenW_in fun kc lu => ?_⟩
                  replace h := thenW_out h lu
                  obtain ⟨hcs, h⟩ := h
                  refine ⟨hcs, thenW_in fun d4 ki => ?_⟩
                  replace h := thenW_out h ki
                  obtain ⟨kd, gp, h⟩ := h
                  refine ⟨kd, gp, ?_⟩
                  obtain ⟨me, i4, h⟩ := h
                  refine elim_some i4 ?_
                  obtain ⟨jv, iz, h⟩ := h
                  refine ⟨jv, iz, ?_⟩
                  refine thenW_in fun ev ea => ?_
                  have h := h ev d4.heap.size ((Ext.refl no d4).x_alloc ea) (Blk.of_new ea) ((Ext.refl no d4)).size (size_lt_alloc ea)
                  obtain ⟨I1, lr, h0, h⟩ := h
                  refine ⟨I1, lr, h0, fun k2 ah jt hI => ?_⟩
                  have h := h k2 ah jt hI
                  refine bif_of (fun gl => ?_) (fun gl => ?_)
                  · have h := h.1 (of_decide_eq_true gl)
                    obtain ⟨al, aw, h⟩ := h
                    refine ⟨al, aw, ?_⟩
                    obtain ⟨gs, im, g5, cy, h⟩ := h
                    refine ⟨gs, im, g5, cy, ?_⟩
                    refine thenW_in fun fc lh => ?_
                    have ew := (Ext.refl no ah).x_drew lh
                    obtain ⟨jy, c5, h⟩ := h
                    refine ⟨jy, (ew).cell c5 id, ?_⟩
                    have h := h fc ew
                    obtain ⟨hen, h⟩ := h
                    refine bif_tt hen ?_
                    refine h.mono fun la bl h => ?_
                    obtain ⟨kw, he, h⟩ := h
                    refine ⟨kw, he, ?_⟩
                    obtain ⟨fq, h⟩ := h
                    refine ⟨fq, ?_⟩
                    refine h.mono fun je j6 h => ?_
                    obtain ⟨cv, he, h⟩ := h
                    refine ⟨cv, he, ?_⟩
                    refine bif_of (fun ca => ?_) (fun ca => ?_)
                    · have h := h.1 (bne_t ca)
                      exact h
                    · have h := h.2 (bne_f ca)
                      obtain ⟨am, bj, h⟩ := h
                      try rw [w64 am bj]
                      obtain ⟨fv, hk, h⟩ := h
                      exact ⟨fv, hk, h⟩
                  · have h := h.2 (Int.not_lt.1 (of_decide_eq_false gl))
                    refine thenW_in fun ab cj => ?_
                    have a0 := (Ext.refl no ah).x_drew cj
                    obtain ⟨bu, b6, h⟩ := h
                    refine ⟨bu, (a0).cell b6 id, ?_⟩
                    obtain ⟨bx, b4, h⟩ := h
                    refine ⟨bx, (a0).cell b4 id, ?_⟩
                    obtain ⟨fp, er, h⟩ := h
                    refine ⟨fp, (a0).cell er id, ?_⟩
                    obtain ⟨gg, dj, h⟩ := h
                    refine ⟨gg, (a0).cell dj id, ?_⟩
                    obtain ⟨li, dh, h⟩ := h
                    refine elim_some dh ?_
                    have h := h ab a0
                    obtain ⟨hcs, h⟩ := h
                    refine ⟨hcs, thenW_in fun bn ce => ?_⟩
                    replace h := thenW_out h ce
                    obtain ⟨ey, f1, h⟩ := h
                    refine ⟨ey, f1, ?_⟩
                    obtain ⟨ka, dv, h⟩ := h
                    refine elim_some dv ?_
                    obtain ⟨hcs, h⟩ := h
                    refine ⟨hcs, thenW_in fun br bz => ?_⟩
                    replace h := thenW_out h bz
                    exact h
              · have h := h1'
                have h := h ai (Ext.refl (fun b => b ∈ ([] : List Nat)) ai)
                refine thenW_in fun ae gw => ?_
                have h := h ae ai.heap.size ((Ext.refl no ai).x_alloc gw) (Blk.of_new gw) ((Ext.refl no ai)).size (size_lt_alloc gw)
                obtain ⟨d1, ci, ay, av, ao, h⟩ := h
                refine ⟨d1, ci, ay, av, ao, ?_⟩
                obtain ⟨h0', h1'⟩ := h
                refine ⟨?_, ?_⟩
                · have h := h0'
                  have h := h ae [] (Ext.refl no ae) Priv.nil
                  refine h.mono fun fy a2 h => ?_
                  obtain ⟨be, au, he, hkL, h⟩ := h
                  refine ⟨be, au, he, ?_⟩
                  have h := h a2 (Ext.refl (fun b => b ∈ ([] : List Nat)) a2)
                  refine thenW_in fun i1 fw => ?_
                  have h := h i1 a2.heap.size ((Ext.refl no a2).x_alloc fw) (Blk.of_new fw) ((Ext.refl no a2)).size (size_lt_alloc fw)
                  obtain ⟨hcs, h⟩ := h
                  refine ⟨hcs, thenW_in fun dr et => ?_⟩
                  replace h := thenW_out h et
                  obtain ⟨hcs, h⟩ := h
                  refine ⟨hcs, thenW_in fun ch ll => ?_⟩
                  replace h := thenW_out h ll
                  obtain ⟨ju, fl, h⟩ := h
                  refine ⟨ju, fl, ?_⟩
                  obtain ⟨m8, gt, h⟩ := h
                  refine elim_some gt ?_
                  obtain ⟨kt, fu, h⟩ := h
                  refine ⟨kt, fu, ?_⟩
                  refine thenW_in fun ah dm => ?_
                  have h := h ah ch.heap.size ((Ext.refl no ch).x_alloc dm) (Blk.of_new dm) ((Ext.refl no ch)).size (size_lt_alloc dm)
                  obtain ⟨I1, kv, h0, h⟩ := h
                  refine ⟨I1, kv, h0, fun lt b8 m2 hI => ?_⟩
                  have h := h lt b8 m2 hI
                  refine bif_of (fun g3 => ?_) (fun g3 => ?_)
                  · have h := h.1 (of_decide_eq_true g3)
                    obtain ⟨al, aw, h⟩ := h
                    refine ⟨al, aw, ?_⟩
                    obtain ⟨ft, ii, fm, cm, h⟩ := h
                    refine ⟨ft, ii, fm, cm, ?_⟩
                    refine thenW_in fun bl f2 => ?_
                    have f5 := (Ext.refl no b8).x_drew f2
                    obtain ⟨i8, gv, h⟩ := h
                    refine ⟨i8, (f5).cell gv id, ?_⟩
                    have h := h bl f5
                    obtain ⟨hen, h⟩ := h
                    refine bif_tt hen ?_
                    refine h.mono fun jm a1 h => ?_
                    obtain ⟨fg, he, h⟩ := h
                    refine ⟨fg, he, ?_⟩
                    obtain ⟨en, h⟩ := h
                    refine ⟨en, ?_⟩
                    refine h.mono fun jj bo h => ?_
                    obtain ⟨cq, he, h⟩ := h
                    refine ⟨cq, he, ?_⟩
                    refine bif_of (fun cf => ?_) (fun cf => ?_)
                    · have h := h.1 (bne_t cf)
                      exact h
                    · have h := h.2 (bne_f cf)
                      obtain ⟨am, bj, h⟩ := h
                      try rw [w64 am bj]
                      obtain ⟨i7, hk, h⟩ := h
                      exact ⟨i7, hk, h⟩
                  · have h := h.2 (Int.not_lt.1 (of_decide_eq_false g3))
                    refine thenW_in fun bt fh => ?_
                    have a4 := (Ext.refl no b8).x_drew fh
                    obtain ⟨fz, dd, h⟩ := h
                    refine ⟨fz, (a4).cell dd id, ?_⟩
                    obtain ⟨c7, bb, h⟩ := h
                    refine ⟨c7, (a4).cell bb id, ?_⟩
                    obtain ⟨cd, b3, h⟩ := h
                    refine ⟨cd, (a4).cell b3 id, ?_⟩
                    obtain ⟨ct, aq, h⟩ := h
                    refine ⟨ct, (a4).cell aq id, ?_⟩
                    obtain ⟨m4, dz, h⟩ := h
                    refine elim_some dz ?_
                    have h := h bt a4
                    obtain ⟨hcs, h⟩ := h
                    refine ⟨hcs, thenW_in fun ja gn => ?_⟩
                    replace h := thenW_out h gn
                    obtain ⟨d8, dk, h⟩ := h
                    refine ⟨d8, dk, ?_⟩
                    obtain ⟨kf, ex, h⟩ := h
                    refine elim_some ex ?_
                    obtain ⟨hcs, h⟩ := h
                    refine ⟨hcs, thenW_in fun jg i9 => ?_⟩
                    replace h := thenW_out h i9
                    exact h
                · have h := h1'
                  refine thenW_in fun cz ia => ?_
                  have h := h cz ae.heap.size ((Ext.refl no ae).x_alloc ia) (Blk.of_new ia) ((Ext.refl no ae)).size (size_lt_alloc ia)
                  obtain ⟨i5, gy, cc, cr, bf, h⟩ := h
                  refine ⟨i5, gy, cc, cr, bf, ?_⟩
                  have h := h cz [] (Ext.refl no cz) Priv.nil
                  refine h.mono fun kr e1 h => ?_
                  obtain ⟨bg, b5, he, hkL, h⟩ := h
                  refine ⟨bg, b5, he, ?_⟩
                  have h := h e1 (Ext.refl (fun b => b ∈ ([] : List Nat)) e1)
                  obtain ⟨hcs, h⟩ := h
                  refine ⟨hcs, thenW_in fun lf kb => ?_⟩
                  replace h := thenW_out h kb
                  obtain ⟨hcs, h⟩ := h
                  refine ⟨hcs, thenW_in fun ad ko => ?_⟩
                  replace h := thenW_out h ko
                  obtain ⟨lx, c6, h⟩ := h
                  refine ⟨lx, c6, ?_⟩
                  obtain ⟨mp, j0, h⟩ := h
                  refine elim_some j0 ?_
                  obtain ⟨kj, iv, h⟩ := h
                  refine ⟨kj, iv, ?_⟩
                  refine thenW_in fun b8 iq => ?_
                  have h := h b8 ad.heap.size ((Ext.refl no ad).x_alloc iq) (Blk.of_new iq) ((Ext.refl no ad)).size (size_lt_alloc iq)
                  obtain ⟨I1, m5, h0, h⟩ := h
                  refine ⟨I1, m5, h0, fun kk cs jr hI => ?_⟩
                  have h := h kk cs jr hI
                  refine bif_of (fun c4 => ?_) (fun c4 => ?_)
                  · have h := h.1 (of_decide_eq_true c4)
                    obtain ⟨al, aw, h⟩ := h
                    refine ⟨al, aw, ?_⟩
                    obtain ⟨de, di, dl, bh, h⟩ := h
                    refine ⟨de, di, dl, bh, ?_⟩
                    refine thenW_in fun a1 fj => ?_
                    have bq := (Ext.refl no cs).x_drew fj
                    obtain ⟨fb, f9, h⟩ := h
                    refine ⟨fb, (bq).cell f9 id, ?_⟩
                    have h := h a1 bq
                    obtain ⟨hen, h⟩ := h
                    refine bif_tt hen ?_
                    refine h.mono fun jn jc h => ?_
                    obtain ⟨ip, he, h⟩ := h
                    refine ⟨ip, he, ?_⟩
                    obtain ⟨ep, h⟩ := h
                    refine ⟨ep, ?_⟩
                    refine h.mono fun em bc h => ?_
                    obtain ⟨c1, he, h⟩ := h
                    refine ⟨c1, he, ?_⟩
                    refine bif_of (fun d3 => ?_) (fun d3 => ?_)
                    · have h := h.1 (bne_t d3)
                      exact h
                    · have h := h.2 (bne_f d3)
                      obtain ⟨am, bj, h⟩ := h
                      try rw [w64 am bj]
                      obtain ⟨i3, hk, h⟩ := h
                      exact ⟨i3, hk, h⟩
                  · have h := h.2 (Int.not_lt.1 (of_decide_eq_false c4))
                    refine thenW_in fun bn ce => ?_
                    have a9 := (Ext.refl no cs).x_drew ce
                    obtain ⟨ie, ek, h⟩ := h
                    refine ⟨ie, (a9).cell ek id, ?_⟩
                    obtain ⟨cp, b9, h⟩ := h
                    refine ⟨cp, (a9).cell b9 id, ?_⟩
                    obtain ⟨ba, a7, h⟩ := h
                    refine ⟨ba, (a9).cell a7 id, ?_⟩
                    obtain ⟨an, a8, h⟩ := h
                    refine ⟨an, (a9).cell a8 id, ?_⟩
                    obtain ⟨ld, dw, h⟩ := h
                    refine elim_some dw ?_
                    have h := h bn a9
                    obtain ⟨hcs, h⟩ := h
                    refine ⟨hcs, thenW_in fun jp fd => ?_⟩
                    replace h := thenW_out h fd
                    obtain ⟨e6, es, h⟩ := h
                    refine ⟨e6, es, ?_⟩
                    obtain ⟨ge, b7, h⟩ := h
                    refine elim_some b7 ?_
                    obtain ⟨hcs, h⟩ := h
                    refine ⟨hcs, thenW_in fun d7 bv => ?_⟩
                    replace h := thenW_out h bv
                    exact h
              · have h := h2'
                have h := h ai (Ext.refl (fun b => b ∈ ([] : List Nat)) ai)
                refine thenW_in fun ae gw => ?_
                have h := h ae ai.heap.size ((Ext.refl no ai).x_alloc gw) (Blk.of_new gw) ((Ext.refl no ai)).size (size_lt_alloc gw)
                obtain ⟨d1, ci, ay, av, ao, h⟩ := h
                refine ⟨d1, ci, ay, av, ao, ?_⟩
                obtain ⟨h0', h1'⟩ := h
                refine ⟨?_, ?_⟩
                · have h := h0'
                  have h := h ae [] (Ext.refl no ae) Priv.nil
                  refine h.mono fun fy a2 h => ?_
                  obtain ⟨be, au, he, hkL, h⟩ := h
                  refine ⟨be, au, he, ?_⟩
                  have h := h a2 (Ext.refl (fun b => b ∈ ([] : List Nat)) a2)
                  refine thenW_in fun i1 fw => ?_
                  have h := h i1 a2.heap.size ((Ext.refl no a2).x_alloc fw) (Blk.of_new fw) ((Ext.refl no a2)).size (size_lt_alloc fw)
                  obtain ⟨hcs, h⟩ := h
                  refine ⟨hcs, thenW_in fun dr et => ?_⟩
                  replace h := thenW_out h et
                  obtain ⟨hcs, h⟩ := h
                  refine ⟨hcs, thenW_in fun ch ll => ?_⟩
                  replace h := thenW_out h ll
                  obtain ⟨ju, fl, h⟩ := h
                  refine ⟨ju, fl, ?_⟩
                  obtain ⟨m8, gt, h⟩ := h
                  refine elim_some gt ?_
                  obtain ⟨kt, fu, h⟩ := h
                  refine ⟨kt, fu, ?_⟩
                  refine thenW_in fun ah dm => ?_
                  have h := h ah ch.heap.size ((Ext.refl no ch).x_alloc dm) (Blk.of_new dm) ((Ext.refl no ch)).size (size_lt_alloc dm)
                  obtain ⟨I1, kv, h0, h⟩ := h
                  refine ⟨I1, kv, h0, fun lt b8 m2 hI => ?_⟩
                  have h := h lt b8 m2 hI
                  refine bif_of (fun g3 => ?_) (fun g3 => ?_)
                  · have h := h.1 (of_decide_eq_true g3)
                    obtain ⟨al, aw, h⟩ := h
                    refine ⟨al, aw, ?_⟩
                    obtain ⟨ft, ii, fm, cm, h⟩ := h
                    refine ⟨ft, ii, fm, cm, ?_⟩
                    refine thenW_in fun bl f2 => ?_
                    have f5 := (Ext.refl no b8).x_drew f2
                    obtain ⟨i8, gv, h⟩ := h
                    refine ⟨i8, (f5).cell gv id, ?_⟩
                    have h := h bl f5
                    obtain ⟨hen, h⟩ := h
                    refine bif_tt hen ?_
                    refine h.mono fun jm a1 h => ?_
                    obtain ⟨fg, he, h⟩ := h
                    refine ⟨fg, he, ?_⟩
                    obtain ⟨en, h⟩ := h
                    refine ⟨en, ?_⟩
                    refine h.mono fun jj bo h => ?_
                    obtain ⟨cq, he, h⟩ := h
                    refine ⟨cq, he, ?_⟩
                    refine bif_of (fun cf => ?_) (fun cf => ?_)
                    · have h := h.1 (bne_t cf)
                      exact h
                    · have h := h.2 (bne_f cf)
                      obtain ⟨am, bj, h⟩ := h
                      try rw [w64 am bj]
                      obtain ⟨i7, hk, h⟩ := h
                      exact ⟨i7, hk, h⟩
                  · have h := h.2 (Int.not_lt.1 (of_decide_eq_false g3))
                    refine thenW_in fun bt fh => ?_
                    have a4 := (Ext.refl no b8).x_drew fh
                    obtain ⟨fz, dd, h⟩ := h
                    refine ⟨fz, (a4).cell dd id, ?_⟩
                    obtain ⟨c7, bb, h⟩ := h
                    refine ⟨c7, (a4).cell bb id, ?_⟩
                    obtain ⟨cd, b3, h⟩ := h
                    refine ⟨cd, (a4).cell b3 id, ?_⟩
                    obtain ⟨ct, aq, h⟩ := h
                    refine ⟨ct, (a4).cell aq id, ?_⟩
                    obtain ⟨m4, dz, h⟩ := h
                    refine elim_some dz ?_
                    have h := h bt a4
                    obtain ⟨hcs, h⟩ := h
                    refine ⟨hcs, thenW_in fun ja gn => ?_⟩
                    replace h := thenW_out h gn
                    obtain ⟨d8, dk, h⟩ := h
                    refine ⟨d8, dk, ?_⟩
                    obtain ⟨kf, ex, h⟩ := h
                    refine elim_some ex ?_
                    obtain ⟨hcs, h⟩ := h
                    refine ⟨hcs, thenW_in fun jg i9 => ?_⟩
                    replace h := thenW_out h i9
                    exact h
                · have h := h1'
                  refine thenW_in fun cz ia => ?_
                  have h := h cz ae.heap.size ((Ext.refl no ae).x_alloc ia) (Blk.of_new ia) ((Ext.refl no ae)).size (size_lt_alloc ia)
                  obtain ⟨i5, gy, cc, cr, bf, h⟩ := h
                  refine ⟨i5, gy, cc, cr, bf, ?_⟩
                  have h := h cz [] (Ext.refl no cz) Priv.nil
                  refine h.mono fun kr e1 h => ?_
                  obtain ⟨bg, b5, he, hkL, h⟩ := h
                  refine ⟨bg, b5, he, ?_⟩
                  have h := h e1 (Ext.refl (fun b => b ∈ ([] : List Nat)) e1)
                  obtain ⟨hcs, h⟩ := h
                  refine ⟨hcs, thenW_in fun lf kb => ?_⟩
                  replace h := thenW_out h kb
                  obtain ⟨hcs, h⟩ := h
                  refine ⟨hcs, thenW_in fun ad ko => ?_⟩
                  replace h := thenW_out h ko
                  obtain ⟨lx, c6, h⟩ := h
                  refine ⟨lx, c6, ?_⟩
                  obtain ⟨mp, j0, h⟩ := h
                  refine elim_some j0 ?_
                  obtain ⟨kj, iv, h⟩ := h
                  refine ⟨kj, iv, ?_⟩
                  refine thenW_in fun b8 iq => ?_
                  have h := h b8 ad.heap.size ((Ext.refl no ad).x_alloc iq) (Blk.of_new iq) ((Ext.refl no ad)).size (size_lt_alloc iq)
                  obtain ⟨I1, m5, h0, h⟩ := h
                  refine ⟨I1, m5, h0, fun kk cs jr hI => ?_⟩
                  have h := h kk cs jr hI
                  refine bif_of (fun c4 => ?_) (fun c4 => ?_)
                  · have h := h.1 (of_decide_eq_true c4)
                    obtain ⟨al, aw, h⟩ := h
                    refine ⟨al, aw, ?_⟩
                    obtain ⟨de, di, dl, bh, h⟩ := h
                    refine ⟨de, di, dl, bh, ?_⟩
                    refine thenW_in fun a1 fj => ?_
                    have bq := (Ext.refl no cs).x_drew fj
                    obtain ⟨fb, f9, h⟩ := h
                    refine ⟨fb, (bq).cell f9 id, ?_⟩
                    have h := h a1 bq
                    obtain ⟨hen, h⟩ := h
                    refine bif_tt hen ?_
                    refine h.mono fun jn jc h => ?_
                    obtain ⟨ip, he, h⟩ := h
                    refine ⟨ip, he, ?_⟩
                    obtain ⟨ep, h⟩ := h
                    refine ⟨ep, ?_⟩
                    refine h.mono fun em bc h => ?_
                    obtain ⟨c1, he, h⟩ := h
                    refine ⟨c1, he, ?_⟩
                    refine bif_of (fun d3 => ?_) (fun d3 => ?_)
                    · have h := h.1 (bne_t d3)
                      exact h
                    · have h := h.2 (bne_f d3)
                      obtain ⟨am, bj, h⟩ := h
                      try rw [w64 am bj]
                      obtain ⟨i3, hk, h⟩ := h
                      exact ⟨i3, hk, h⟩
                  · have h := h.2 (Int.not_lt.1 (of_decide_eq_false c4))
                    refine thenW_in fun bn ce => ?_
                    have a9 := (Ext.refl no cs).x_drew ce
                    obtain ⟨ie, ek, h⟩ := h
                    refine ⟨ie, (a9).cell ek id, ?_⟩
                    obtain ⟨cp, b9, h⟩ := h
                    refine ⟨cp, (a9).cell b9 id, ?_⟩
                    obtain ⟨ba, a7, h⟩ := h
                    refine ⟨ba, (a9).cell a7 id, ?_⟩
                    obtain ⟨an, a8, h⟩ := h
                    refine ⟨an, (a9).cell a8 id, ?_⟩
                    obtain ⟨ld, dw, h⟩ := h
                    refine elim_some dw ?_
                    have h := h bn a9
                    obtain ⟨hcs, h⟩ := h
                    refine ⟨hcs, thenW_in fun jp fd => ?_⟩
                    replace h := thenW_out h fd
                    obtain ⟨e6, es, h⟩ := h
                    refine ⟨e6, es, ?_⟩
                    obtain ⟨ge, b7, h⟩ := h
                    refine elim_some b7 ?_
                    obtain ⟨hcs, h⟩ := h
                    refine ⟨hcs, thenW_in fun d7 bv => ?_⟩
                    replace h := thenW_out h bv
                    exact h
            · have h := h1'
              refine thenW_in fun af iw => ?_
              have h := h af ig.heap.size (aj.x_alloc iw) (Blk.of_new iw) (aj).size (size_lt_alloc iw)
              obtain ⟨iy, ic, gk, f3, f8, e8, eh, h⟩ := h
              refine ⟨iy, ic, gk, f3, f8, e8, eh, ?_⟩
              obtain ⟨h0', h1'⟩ := h
              refine ⟨?_, ?_⟩
              · have h := h0'
                have h := h af [] (Ext.refl no af) Priv.nil
                refine h.mono fun ku aa h => ?_
                obtain ⟨cw, he, hkL, h⟩ := h
                refine ⟨cw, he, ?_⟩
                obtain ⟨ay, av, ao, cn, g7, h⟩ := h
                refine ⟨ay, av, ao, cn, g7, ?_⟩
                obtain ⟨h0', h1'⟩ := h
                refine ⟨?_, ?_⟩
                · have h := h0'
                  have h := h aa [] (Ext.refl (fun b => b ∈ ([] : List Nat)) aa) PrivJ.nil
                  refine h.mono fun jw b0 h => ?_
                  obtain ⟨b1, ax, he, hkL, h⟩ := h
                  refine ⟨b1, ax, he, ?_⟩
                  have h := h b0 (Ext.refl (fun b => b ∈ ([] : List Nat)) b0)
                  refine thenW_in fun dr et => ?_
                  have h := h dr b0.heap.size ((Ext.refl no b0).x_alloc et) (Blk.of_new et) ((Ext.refl no b0)).size (size_lt_alloc et)
                  obtain ⟨hcs, h⟩ := h
                  refine ⟨hcs, thenW_in fun ev ea => ?_⟩
                  replace h := thenW_out h ea
                  obtain ⟨hcs, h⟩ := h
                  refine ⟨hcs, thenW_in fun c0 lp => ?_⟩
                  replace h := thenW_out h lp
                  obtain ⟨lz, g1, h⟩ := h
                  refine ⟨lz, g1, ?_⟩
                  obtain ⟨mc, ik, h⟩ := h
                  refine elim_some ik ?_
                  obtain ⟨l3, c6, h⟩ := h
                  refine ⟨l3, c6, ?_⟩
                  refine thenW_in fun eo el => ?_
                  have h := h eo c0.heap.size ((Ext.refl no c0).x_alloc el) (Blk.of_new el) ((Ext.refl no c0)).size (size_lt_alloc el)
                  obtain ⟨I1, kn, h0, h⟩ := h
                  refine ⟨I1, kn, h0, fun js ap kp hI => ?_⟩
                  have h := h js ap kp hI
                  refine bif_of (fun j3 => ?_) (fun j3 => ?_)
                  · have h := h.1 (of_decide_eq_true j3)
                    obtain ⟨al, aw, h⟩ := h
                    refine ⟨al, aw, ?_⟩
                    obtain ⟨i0, gu, g8, ir, h⟩ := h
                    refine ⟨i0, gu, g8, ir, ?_⟩
                    refine thenW_in fun ez fk => ?_
                    have bp := (Ext.refl no ap).x_drew fk
                    obtain ⟨g2, bh, h⟩ := h
                    refine ⟨g2, (bp).cell bh id, ?_⟩
                    have h := h ez bp
                    obtain ⟨hen, h⟩ := h
                    refine bif_tt hen ?_
                    refine h.mono fun jl ab h => ?_
                    obtain ⟨gr, he, h⟩ := h
                    refine ⟨gr, he, ?_⟩
                    obtain ⟨d9, h⟩ := h
                    refine ⟨d9, ?_⟩
                    refine h.mono fun j9 jf h => ?_
                    obtain ⟨ck, he, h⟩ := h
                    refine ⟨ck, he, ?_⟩
                    refine bif_of (fun bw => ?_) (fun bw => ?_)
                    · have h := h.1 (bne_t bw)
                      exact h
                    · have h := h.2 (bne_f bw)
                      obtain ⟨am, bj, h⟩ := h
                      try rw [w64 am bj]
                      obtain ⟨gd, hk, h⟩ := h
                      exact ⟨gd, hk, h⟩
                  · have h := h.2 (Int.not_lt.1 (of_decide_eq_false j3))
                    refine thenW_in fun bc gc => ?_
                    have a3 := (Ext.refl no ap).x_drew gc
                    obtain ⟨c7, bb, h⟩ := h
                    refine ⟨c7, (a3).cell bb id, ?_⟩
                    obtain ⟨cd, b3, h⟩ := h
                    refine ⟨cd, (a3).cell b3 id, ?_⟩
                    obtain ⟨ct, aq, h⟩ := h
                    refine ⟨ct, (a3).cell aq id, ?_⟩
                    obtain ⟨fo, da, h⟩ := h
                    refine ⟨fo, (a3).cell da id, ?_⟩
                    obtain ⟨ly, f0, h⟩ := h
                    refine elim_some f0 ?_
                    have h := h bc a3
                    obtain ⟨hcs, h⟩ := h
                    refine ⟨hcs, thenW_in fun j4 fa => ?_⟩
                    replace h := thenW_out h fa
                    obtain ⟨eu, df, h⟩ := h
                    refine ⟨eu, df, ?_⟩
                    obtain ⟨jx, ei, h⟩ := h
                    refine elim_some ei ?_
                    obtain ⟨hcs, h⟩ := h
                    refine ⟨hcs, thenW_in fun jk fr => ?_⟩
                    replace h := thenW_out h fr
                    exact h
                · have h := h1'
                  have h := h aa (Ext.refl (fun b => b ∈ ([] : List Nat)) aa)
                  refine thenW_in fun co j2 => ?_
                  have h := h co aa.heap.size ((Ext.refl no aa).x_alloc j2) (Blk.of_new j2) ((Ext.refl no aa)).size (size_lt_alloc j2)
                  obtain ⟨cc, cr, bf, d0, cl, h⟩ := h
                  refine ⟨cc, cr, bf, d0, cl, ?_⟩
                  have h := h co [] (Ext.refl no co) Priv.nil
                  refine h.mono fun l2 ad h => ?_
                  obtain ⟨bd, ar, he, hkL, h⟩ := h
                  refine ⟨bd, ar, he, ?_⟩
                  have h := h ad (Ext.refl (fun b => b ∈ ([] : List Nat)) ad)
                  obtain ⟨hcs, h⟩ := h
                  refine ⟨hcs, thenW_in fun ah dm => ?_⟩
                  replace h := thenW_out h dm
                  obtain ⟨hcs, h⟩ := h
                  refine ⟨hcs, thenW_in fun ag lv => ?_⟩
                  replace h := thenW_out h lv
                  obtain ⟨l7, cy, h⟩ := h
                  refine ⟨l7, cy, ?_⟩
                  obtain ⟨mq, g0, h⟩ := h
                  refine elim_some g0 ?_
                  obtain ⟨lm, c5, h⟩ := h
                  refine ⟨lm, c5, ?_⟩
                  refine thenW_in fun ap gz => ?_
                  have h := h ap ag.heap.size ((Ext.refl no ag).x_alloc gz) (Blk.of_new gz) ((Ext.refl no ag)).size (size_lt_alloc gz)
                  obtain ⟨I1, l0, h0, h⟩ := h
                  refine ⟨I1, l0, h0, fun fs bi k7 hI => ?_⟩
                  have h := h fs bi k7 hI
                  refine bif_of (fun c8 => ?_) (fun c8 => ?_)
                  · have h := h.1 (of_decide_eq_true c8)
                    obtain ⟨al, aw, h⟩ := h
                    refine ⟨al, aw, ?_⟩
                    obtain ⟨e4, ed, e2, dq, h⟩ := h
                    refine ⟨e4, ed, e2, dq, ?_⟩
                    refine thenW_in fun ab cj => ?_
                    have a0 := (Ext.refl no bi).x_drew cj
                    obtain ⟨bu, b6, h⟩ := h
                    refine ⟨bu, (a0).cell b6 id, ?_⟩
                    have h := h ab a0
                    obtain ⟨hen, h⟩ := h
                    refine bif_tt hen ?_
                    refine h.mono fun jo bt h => ?_
                    obtain ⟨gi, he, h⟩ := h
                    refine ⟨gi, he, ?_⟩
                    obtain ⟨ds, h⟩ := h
                    refine ⟨ds, ?_⟩
                    refine h.mono fun jb j7 h => ?_
                    obtain ⟨d2, he, h⟩ := h
                    refine ⟨d2, he, ?_⟩
                    refine bif_of (fun cb => ?_) (fun cb => ?_)
                    · have h := h.1 (bne_t cb)
                      exact h
                    · have h := h.2 (bne_f cb)
                      obtain ⟨am, bj, h⟩ := h
                      try rw [w64 am bj]
                      obtain ⟨ix, hk, h⟩ := h
                      exact ⟨ix, hk, h⟩
                  · have h := h.2 (Int.not_lt.1 (of_decide_eq_false c8))
                    refine thenW_in fun dt ib => ?_
                    have a6 := (Ext.refl no bi).x_drew ib
                    obtain ⟨cp, b9, h⟩ := h
                    refine ⟨cp, (a6).cell b9 id, ?_⟩
                    obtain ⟨ba, a7, h⟩ := h
                    refine ⟨ba, (a6).cell a7 id, ?_⟩
                    obtain ⟨an, a8, h⟩ := h
                    refine ⟨an, (a6).cell a8 id, ?_⟩
                    obtain ⟨cu, b2, h⟩ := h
                    refine ⟨cu, (a6).cell b2 id, ?_⟩
                    obtain ⟨k1, dc, h⟩ := h
                    refine elim_some dc ?_
                    have h := h dt a6
                    obtain ⟨hcs, h⟩ := h
                    refine ⟨hcs, thenW_in fun j8 gh => ?_⟩
                    replace h := thenW_out h gh
                    obtain ⟨eq, db, h⟩ := h
                    refine ⟨eq, db, ?_⟩
                    obtain ⟨kx, du, h⟩ := h
                    refine elim_some du ?_
                    obtain ⟨hcs, h⟩ := h
                    refine ⟨hcs, thenW_in fun ji ff => ?_⟩
                    replace h := thenW_out h ff
                    exact h
              · have h := h1'
                refine thenW_in fun cg gq => ?_
                have h := h cg af.heap.size ((Ext.refl no af).x_alloc gq) (Blk.of_new gq) ((Ext.refl no af)).size (size_lt_alloc gq)
                obtain ⟨ih, d1, ci, ay, av, ao, cn, h⟩ := h
                refine ⟨ih, d1, ci, ay, av, ao, cn, ?_⟩
                have h := h cg [] (Ext.refl no cg) Priv.nil
                refine h.mono fun fy a2 h => ?_
                obtain ⟨d6, he, hkL, h⟩ := h
                refine ⟨d6, he, ?_⟩
                obtain ⟨bf, d0, cl, gm, fe, h⟩ := h
                refine ⟨bf, d0, cl, gm, fe, ?_⟩
                have h := h a2 [] (Ext.refl (fun b => b ∈ ([] : List Nat)) a2) PrivJ.nil
                refine h.mono fun le ag h => ?_
                obtain ⟨ak, az, he, hkL, h⟩ := h
                refine ⟨ak, az, he, ?_⟩
                have h := h ag (Ext.refl (fun b => b ∈ ([] : List Nat)) ag)
                obtain ⟨hcs, h⟩ := h
                refine ⟨hcs, thenW_in fun eo el => ?_⟩
                replace h := thenW_out h el
                obtain ⟨hcs, h⟩ := h
                refine ⟨hcs, thenW_in fun c2 l9 => ?_⟩
                replace h := thenW_out h l9
                obtain ⟨l4, j1, h⟩ := h
                refine ⟨l4, j1, ?_⟩
                obtain ⟨ml, il, h⟩ := h
                refine elim_some il ?_
                obtain ⟨lc, cm, h⟩ := h
                refine ⟨lc, cm, ?_⟩
                refine thenW_in fun bl f2 => ?_
                have h := h bl c2.heap.size ((Ext.refl no c2).x_alloc f2) (Blk.of_new f2) ((Ext.refl no c2)).size (size_lt_alloc f2)
                obtain ⟨I1, ij, h0, h⟩ := h
                refine ⟨I1, ij, h0, fun i2 a1 io hI => ?_⟩
                have h := h i2 a1 io hI
                refine bif_of (fun c3 => ?_) (fun c3 => ?_)
                · have h := h.1 (of_decide_eq_true c3)
                  obtain ⟨al, aw, h⟩ := h
                  refine ⟨al, aw, ?_⟩
                  obtain ⟨eg, e7, f4, eb, h⟩ := h
                  refine ⟨eg, e7, f4, eb, ?_⟩
                  refine thenW_in fun bo gb => ?_
                  have bs := (Ext.refl no a1).x_drew gb
                  obtain ⟨bx, b4, h⟩ := h
                  refine ⟨bx, (bs).cell b4 id, ?_⟩
                  have h := h bo bs
                  obtain ⟨hen, h⟩ := h
                  refine bif_tt hen ?_
                  refine h.mono fun em bc h => ?_
                  obtain ⟨g4, he, h⟩ := h
                  refine ⟨g4, he, ?_⟩
                  obtain ⟨f7, h⟩ := h
                  refine ⟨f7, ?_⟩
                  refine h.mono fun j5 jd h => ?_
                  obtain ⟨d5, he, h⟩ := h
                  refine ⟨d5, he, ?_⟩
                  refine bif_of (fun cx => ?_) (fun cx => ?_)
                  · have h := h.1 (bne_t cx)
                    exact h
                  · have h := h.2 (bne_f cx)
                    obtain ⟨am, bj, h⟩ := h
                    try rw [w64 am bj]
                    obtain ⟨iu, hk, h⟩ := h
                    exact ⟨iu, hk, h⟩
                · have h := h.2 (Int.not_lt.1 (of_decide_eq_false c3))
                  refine thenW_in fun br bz => ?_
                  have a5 := (Ext.refl no a1).x_drew bz
                  obtain ⟨ba, a7, h⟩ := h
                  refine ⟨ba, (a5).cell a7 id, ?_⟩
                  obtain ⟨an, a8, h⟩ := h
                  refine ⟨an, (a5).cell a8 id, ?_⟩
                  obtain ⟨cu, b2, h⟩ := h
                  refine ⟨cu, (a5).cell b2 id, ?_⟩
                  obtain ⟨fx, ec, h⟩ := h
                  refine ⟨fx, (a5).cell ec id, ?_⟩
                  obtain ⟨ge, b7, h⟩ := h
                  refine elim_some b7 ?_
                  have h := h br a5
                  obtain ⟨hcs, h⟩ := h
                  refine ⟨hcs, thenW_in fun d7 bv => ?_⟩
                  replace h := thenW_out h bv
                  obtain ⟨f6, e0, h⟩ := h
                  refine ⟨f6, e0, ?_⟩
                  obtain ⟨lk, dn, h⟩ := h
                  refine elim_some dn ?_
                  obtain ⟨hcs, h⟩ := h
                  refine ⟨hcs, thenW_in fun jh i6 => ?_⟩
                  replace h := thenW_out h i6
                  exact h
            · have h := h2'
              refine thenW_in fun af iw => ?_
              have h := h af ig.heap.size (aj.x_alloc iw) (Blk.of_new iw) (aj).size (size_lt_alloc iw)
              obtain ⟨iy, ic, gk, f3, f8, e8, eh, h⟩ := h
              refine ⟨iy, ic, gk, f3, f8, e8, eh, ?_⟩
              obtain ⟨h0', h1'⟩ := h
              refine ⟨?_, ?_⟩
              · have h := h0'
                have h := h af [] (Ext.refl no af) Priv.nil
                refine h.mono fun ku aa h => ?_
                obtain ⟨cw, he, hkL, h⟩ := h
                refine ⟨cw, he, ?_⟩
                obtain ⟨ay, av, ao, cn, g7, h⟩ := h
                refine ⟨ay, av, ao, cn, g7, ?_⟩
                obtain ⟨h0', h1'⟩ := h
                refine ⟨?_, ?_⟩
                · have h := h0'
                  have h := h aa [] (Ext.refl (fun b => b ∈ ([] : List Nat)) aa) PrivJ.nil
                  refine h.mono fun jw b0 h => ?_
                  obtain ⟨b1, ax, he, hkL, h⟩ := h
                  refine ⟨b1, ax, he, ?_⟩
                  have h := h b0 (Ext.refl (fun b => b ∈ ([] : List Nat)) b0)
                  refine thenW_in fun dr et => ?_
                  have h := h dr b0.heap.size ((Ext.refl no b0).x_alloc et) (Blk.of_new et) ((Ext.refl no b0)).size (size_lt_alloc et)
                  obtain ⟨hcs, h⟩ := h
                  refine ⟨hcs, thenW_in fun ev ea => ?_⟩
                  replace h := thenW_out h ea
                  obtain ⟨hcs, h⟩ := h
                  refine ⟨hcs, thenW_in fun c0 lp => ?_⟩
                  replace h := thenW_out h lp
                  obtain ⟨lz, g1, h⟩ := h
                  refine ⟨lz, g1, ?_⟩
                  obtain ⟨mc, ik, h⟩ := h
                  refine elim_some ik ?_
                  obtain ⟨l3, c6, h⟩ := h
                  refine ⟨l3, c6, ?_⟩
                  refine thenW_in fun eo el => ?_
                  have h := h eo c0.heap.size ((Ext.refl no c0).x_alloc el) (Blk.of_new el) ((Ext.refl no c0)).size (size_lt_alloc el)
                  obtain ⟨I1, kn, h0, h⟩ := h
                  refine ⟨I1, kn, h0, fun js ap kp hI => ?_⟩
                  have h := h js ap kp hI
                  refine bif_of (fun j3 => ?_) (fun j3 => ?_)
                  · have h := h.1 (of_decide_eq_true j3)
                    obtain ⟨al, aw, h⟩ := h
                    refine ⟨al, aw, ?_⟩
                    obtain ⟨i0, gu, g8, ir, h⟩ := h
                    refine ⟨i0, gu, g8, ir, ?_⟩
                    refine thenW_in fun ez fk => ?_
                    have bp := (Ext.refl no ap).x_drew fk
                    obtain ⟨g2, bh, h⟩ := h
                    refine ⟨g2, (bp).cell bh id, ?_⟩
                    have h := h ez bp
                    obtain ⟨hen, h⟩ := h
                    refine bif_tt hen ?_
                    refine h.mono fun jl ab h => ?_
                    obtain ⟨gr, he, h⟩ := h
                    refine ⟨gr, he, ?_⟩
                    obtain ⟨d9, h⟩ := h
                    refine ⟨d9, ?_⟩
                    refine h.mono fun j9 jf h => ?_
                    obtain ⟨ck, he, h⟩ := h
                    refine ⟨ck, he, ?_⟩
                    refine bif_of (fun bw => ?_) (fun bw => ?_)
                    · have h := h.1 (bne_t bw)
                      exact h
                    · have h := h.2 (bne_f bw)
                      obtain ⟨am, bj, h⟩ := h
                      try rw [w64 am bj]
                      obtain ⟨gd, hk, h⟩ := h
                      exact ⟨gd, hk, h⟩
                  · have h := h.2 (Int.not_lt.1 (of_decide_eq_false j3))
                    refine thenW_in fun bc gc => ?_
                    have a3 := (Ext.refl no ap).x_drew gc
                    obtain ⟨c7, bb, h⟩ := h
                    refine ⟨c7, (a3).cell bb id, ?_⟩
                    obtain ⟨cd, b3, h⟩ := h
                    refine ⟨cd, (a3).cell b3 id, ?_⟩
                    obtain ⟨ct, aq, h⟩ := h
                    refine ⟨ct, (a3).cell aq id, ?_⟩
                    obtain ⟨fo, da, h⟩ := h
                    refine ⟨fo, (a3).cell da id, ?_⟩
                    obtain ⟨ly, f0, h⟩ := h
                    refine elim_some f0 ?_
                    have h := h bc a3
                    obtain ⟨hcs, h⟩ := h
                    refine ⟨hcs, thenW_in fun j4 fa => ?_⟩
                    replace h := thenW_out h fa
                    obtain ⟨eu, df, h⟩ := h
                    refine ⟨eu, df, ?_⟩
                    obtain ⟨jx, ei, h⟩ := h
                    refine elim_some ei ?_
                    obtain ⟨hcs, h⟩ := h
                    refine ⟨hcs, thenW_in fun jk fr => ?_⟩
                    replace h := thenW_out h fr
                    exact h
                · have h := h1'
                  have h := h aa (Ext.refl (fun b => b ∈ ([] : List Nat)) aa)
                  refine thenW_in fun co j2 => ?_
                  have h := h co aa.heap.size ((Ext.refl no aa).x_alloc j2) (Blk.of_new j2) ((Ext.refl no aa)).size (size_lt_alloc j2)
                  obtain ⟨cc, cr, bf, d0, cl, h⟩ := h
                  refine ⟨cc, cr, bf, d0, cl, ?_⟩
                  have h := h co [] (Ext.refl no co) Priv.nil
                  refine h.mono fun l2 ad h => ?_
                  obtain ⟨bd, ar, he, hkL, h⟩ := h
                  refine ⟨bd, ar, he, ?_⟩
                  have h := h ad (Ext.refl (fun b => b ∈ ([] : List Nat)) ad)
                  obtain ⟨hcs, h⟩ := h
                  refine ⟨hcs, thenW_in fun ah dm => ?_⟩
                  replace h := thenW_out h dm
                  obtain ⟨hcs, h⟩ := h
                  refine ⟨hcs, thenW_in fun ag lv => ?_⟩
                  replace h := thenW_out h lv
                  obtain ⟨l7, cy, h⟩ := h
                  refine ⟨l7, cy, ?_⟩
                  obtain ⟨mq, g0, h⟩ := h
                  refine elim_some g0 ?_
                  obtain ⟨lm, c5, h⟩ := h
                  refine ⟨lm, c5, ?_⟩
                  refine thenW_in fun ap gz => ?_
                  have h := h ap ag.heap.size ((Ext.refl no ag).x_alloc gz) (Blk.of_new gz) ((Ext.refl no ag)).size (size_lt_alloc gz)
                  obtain ⟨I1, l0, h0, h⟩ := h
                  refine ⟨I1, l0, h0, fun fs bi k7 hI => ?_⟩
                  have h := h fs bi k7 hI
                  refine bif_of (fun c8 => ?_) (fun c8 => ?_)
                  · have h := h.1 (of_decide_eq_true c8)
                    obtain ⟨al, aw, h⟩ := h
                    refine ⟨al, aw, ?_⟩
                    obtain ⟨e4, ed, e2, dq, h⟩ := h
                    refine ⟨e4, ed, e2, dq, ?_⟩
                    refine thenW_in fun ab cj => ?_
                    have a0 := (Ext.refl no bi).x_drew cj
                    obtain ⟨bu, b6, h⟩ := h
                    refine ⟨bu, (a0).cell b6 id, ?_⟩
                    have h := h ab a0
                    obtain ⟨hen, h⟩ := h
                    refine bif_tt hen ?_
                    refine h.mono fun jo bt h => ?_
                    obtain ⟨gi, he, h⟩ := h
                    refine ⟨gi, he, ?_⟩
                    obtain ⟨ds, h⟩ := h
                    refine ⟨ds, ?_⟩
                    refine h.mono fun jb j7 h => ?_
                    obtain ⟨d2, he, h⟩ := h
                    refine ⟨d2, he, ?_⟩
                    refine bif_of (fun cb => ?_) (fun cb => ?_)
                    · have h := h.1 (bne_t cb)
                      exact h
                    · have h := h.2 (bne_f cb)
                      obtain ⟨am, bj, h⟩ := h
                      try rw [w64 am bj]
                      obtain ⟨ix, hk, h⟩ := h
                      exact ⟨ix, hk, h⟩
                  · have h := h.2 (Int.not_lt.1 (of_decide_eq_false c8))
                    refine thenW_in fun dt ib => ?_
                    have a6 := (Ext.refl no bi).x_drew ib
                    obtain ⟨cp, b9, h⟩ := h
                    refine ⟨cp, (a6).cell b9 id, ?_⟩
                    obtain ⟨ba, a7, h⟩ := h
                    refine ⟨ba, (a6).cell a7 id, ?_⟩
                    obtain ⟨an, a8, h⟩ := h
                    refine ⟨an, (a6).cell a8 id, ?_⟩
                    obtain ⟨cu, b2, h⟩ := h
                    refine ⟨cu, (a6).cell b2 id, ?_⟩
                    obtain ⟨k1, dc, h⟩ := h
                    refine elim_some dc ?_
                    have h := h dt a6
                    obtain ⟨hcs, h⟩ := h
                    refine ⟨hcs, thenW_in fun j8 gh => ?_⟩
                    replace h := thenW_out h gh
                    obtain ⟨eq, db, h⟩ := h
                    refine ⟨eq, db, ?_⟩
                    obtain ⟨kx, du, h⟩ := h
                    refine elim_some du ?_
                    obtain ⟨hcs, h⟩ := h
                    refine ⟨hcs, thenW_in fun ji ff => ?_⟩
                    replace h := thenW_out h ff
                    exact h
              · have h := h1'
                refine thenW_in fun cg gq => ?_
                have h := h cg af.heap.size ((Ext.refl no af).x_alloc gq) (Blk.of_new gq) ((Ext.refl no af)).size (size_lt_alloc gq)
                obtain ⟨ih, d1, ci, ay, av, ao, cn, h⟩ := h
                refine ⟨ih, d1, ci, ay, av, ao, cn, ?_⟩
                have h := h cg [] (Ext.refl no cg) Priv.nil
                refine h.mono fun fy a2 h => ?_
                obtain ⟨d6, he, hkL, h⟩ := h
                refine ⟨d6, he, ?_⟩
                obtain ⟨bf, d0, cl, gm, fe, h⟩ := h
                refine ⟨bf, d0, cl, gm, fe, ?_⟩
                have h := h a2 [] (Ext.refl (fun b => b ∈ ([] : List Nat)) a2) PrivJ.nil
                refine h.mono fun le ag h => ?_
                obtain ⟨ak, az, he, hkL, h⟩ := h
                refine ⟨ak, az, he, ?_⟩
                have h := h ag (Ext.refl (fun b => b ∈ ([] : List Nat)) ag)
                obtain ⟨hcs, h⟩ := h
                refine ⟨hcs, thenW_in fun eo el => ?_⟩
                replace h := thenW_out h el
                obtain ⟨hcs, h⟩ := h
                refine ⟨hcs, thenW_in fun c2 l9 => ?_⟩
                replace h := thenW_out h l9
                obtain ⟨l4, j1, h⟩ := h
                refine ⟨l4, j1, ?_⟩
                obtain ⟨ml, il, h⟩ := h
                refine elim_some il ?_
                obtain ⟨lc, cm, h⟩ := h
                refine ⟨lc, cm, ?_⟩
                refine thenW_in fun bl f2 => ?_
                have h := h bl c2.heap.size ((Ext.refl no c2).x_alloc f2) (Blk.of_new f2) ((Ext.refl no c2)).size (size_lt_alloc f2)
                obtain ⟨I1, ij, h0, h⟩ := h
                refine ⟨I1, ij, h0, fun i2 a1 io hI => ?_⟩
                have h := h i2 a1 io hI
                refine bif_of (fun c3 => ?_) (fun c3 => ?_)
                · have h := h.1 (of_decide_eq_true c3)
                  obtain ⟨al, aw, h⟩ := h
                  refine ⟨al, aw, ?_⟩
                  obtain ⟨eg, e7, f4, eb, h⟩ := h
                  refine ⟨eg, e7, f4, eb, ?_⟩
                  refine thenW_in fun bo gb => ?_
                  have bs := (Ext.refl no a1).x_drew gb
                  obtain ⟨bx, b4, h⟩ := h
                  refine ⟨bx, (bs).cell b4 id, ?_⟩
                  have h := h bo bs
                  obtain ⟨hen, h⟩ := h
                  refine bif_tt hen ?_
                  refine h.mono fun em bc h => ?_
                  obtain ⟨g4, he, h⟩ := h
                  refine ⟨g4, he, ?_⟩
                  obtain ⟨f7, h⟩ := h
                  refine ⟨f7, ?_⟩
                  refine h.mono fun j5 jd h => ?_
                  obtain ⟨d5, he, h⟩ := h
                  refine ⟨d5, he, ?_⟩
                  refine bif_of (fun cx => ?_) (fun cx => ?_)
                  · have h := h.1 (bne_t cx)
                    exact h
                  · have h := h.2 (bne_f cx)
                    obtain ⟨am, bj, h⟩ := h
                    try rw [w64 am bj]
                    obtain ⟨iu, hk, h⟩ := h
                    exact ⟨iu, hk, h⟩
                · have h := h.2 (Int.not_lt.1 (of_decide_eq_false c3))
                  refine thenW_in fun br bz => ?_
                  have a5 := (Ext.refl no a1).x_drew bz
                  obtain ⟨ba, a7, h⟩ := h
                  refine ⟨ba, (a5).cell a7 id, ?_⟩
                  obtain ⟨an, a8, h⟩ := h
                  refine ⟨an, (a5).cell a8 id, ?_⟩
                  obtain ⟨cu, b2, h⟩ := h
                  refine ⟨cu, (a5).cell b2 id, ?_⟩
                  obtain ⟨fx, ec, h⟩ := h
                  refine ⟨fx, (a5).cell ec id, ?_⟩
                  obtain ⟨ge, b7, h⟩ := h
                  refine elim_some b7 ?_
                  have h := h br a5
                  obtain ⟨hcs, h⟩ := h
                  refine ⟨hcs, thenW_in fun d7 bv => ?_⟩
                  replace h := thenW_out h bv
                  obtain ⟨f6, e0, h⟩ := h
                  refine ⟨f6, e0, ?_⟩
                  obtain ⟨lk, dn, h⟩ := h
                  refine elim_some dn ?_
                  obtain ⟨hcs, h⟩ := h
                  refine ⟨hcs, thenW_in fun jh i6 => ?_⟩
                  replace h := thenW_out h i6
                  exact h

theorem snapshot_Store_Compact.go (s1 : Option Addr) (a0 : Option Addr) (a1 : Nat) (a2 : Nat) {R : Value → World → Prop} {w : World} (h : snapshot_Store_Compact.N s1 a0 a1 a2 R w) : Calls Try.prog 10 #[.pointer s1, .slice a0 a1 a2] w fun e w' => ∃ v, e = .returned v ∧ R v w' := snapshot_Store_Compact.ok s1 a0 a1 a2 (snapshot_Store_Compact.up s1 a0 a1 a2 h)
theorem snapshot_Store_Compact.run (s1 : Option Addr) (a0 : Option Addr) (a1 : Nat) (a2 : Nat) {V : Value} {Q : World → Prop} {w : World} (h : snapshot_Store_Compact.N s1 a0 a1 a2 (fun v w' => v = V ∧ Q w') w) : Calls Try.prog 10 #[.pointer s1, .slice a0 a1 a2] w (Ret V Q) := (snapshot_Store_Compact.go s1 a0 a1 a2 h).mono fun e w' ⟨v, he, hv, hq⟩ => ⟨by rw [he, hv], hq⟩

/-- (*snapshot.Store).Append -/
def snapshot_Store_Append.M (s1 : Option Addr) (al : Option Addr) (af : Nat) (ak : Nat) (R : Value → World → Prop) (w : World) : Prop :=
 bif Option.isNone s1 then (
 R (.int .i64 23) w) else (
 s1.elim False fun a3 =>
 ∃ (a4 : Bool), w.cell? (a3.add 4) = some (.bool a4) ∧
 bif a4 then (
 Calls Try.prog 28 #[.int .i64 (af : Int)] w fun an ae => ∃ (a2 : Int), an = .returned (.int .i64 a2) ∧
 bif decide (a2 > 0) then (
 R (.int .i64 19) ae) else (
 s1.elim False fun a8 =>
 ∃ (a9 : Option Addr), ae.cell? (a8.add 3) = some (.pointer a9) ∧
 Calls Try.prog 32 #[.pointer a9, .slice al af ak] ae fun aj aa => ∃ (a1 : Int), aj = .returned (.int .i64 a1) ∧
 Calls Try.prog 38 #[.pointer s1, .int .i64 a1] aa fun ai ag => ∃ (a7 : Int), ai = .returned (.int .i64 a7) ∧
 R (.int .i64 a7) ag)) else (
 s1.elim False fun am =>
 ∃ (a6 : Option Addr), w.cell? (am.add 3) = some (.pointer a6) ∧
 Calls Try.prog 32 #[.pointer a6, .slice al af ak] w fun ad ah => ∃ (a0 : Int), ad = .returned (.int .i64 a0) ∧
 Calls Try.prog 38 #[.pointer s1, .int .i64 a0] ah fun ab ac => ∃ (a5 : Int), ab = .returned (.int .i64 a5) ∧
 R (.int .i64 a5) ac))

theorem snapshot_Store_Append.eq (s1 : Option Addr) (b2a : Option Addr) (b2n : Nat) (b2c : Nat) (R : Value → World → Prop) (w : World) : mfunc Try.prog [] 11 [.pointer s1, .slice b2a b2n b2c] R w = snapshot_Store_Append.M s1 b2a b2n b2c R w := by kernel_rfl
theorem snapshot_Store_Append.ok (s1 : Option Addr) (a1 : Option Addr) (a0 : Nat) (a2 : Nat) {R : Value → World → Prop} {w : World} (h : snapshot_Store_Append.M s1 a1 a0 a2 R w) : Calls Try.prog 11 #[.pointer s1, .slice a1 a0 a2] w fun e w' => ∃ v, e = .returned v ∧ R v w' :=
  mfunc_ok follows (H := []) (args := [.pointer s1, .slice a1 a0 a2]) (by rw [snapshot_Store_Append.eq]; exact h)

def snapshot_Store_Append.N (s1 : Option Addr) (aj : Option Addr) (a9 : Nat) (ai : Nat) (R : Value → World → Prop) (w : World) : Prop :=
 (s1 = none →
 R (.int .i64 23) w) ∧
 (s1 ≠ none →
 ∃ a4 : Addr, s1 = some a4 ∧
 ∃ (a2 : Bool), w.cell? (a4.add 4) = some (.bool a2) ∧
 (a2 = true →
 ((journal_Parts.F (a9 : Int)) > 0 →
 ∀ (a8 : World), Ext no w a8 →
 R (.int .i64 19) a8) ∧
 ((journal_Parts.F (a9 : Int)) ≤ 0 →
 ∃ (a6 : Option Addr), w.cell? (a4.add 3) = some (.pointer a6) ∧
 ∀ (a8 : World), Ext no w a8 →
 Calls Try.prog 32 #[.pointer a6, .slice aj a9 ai] a8 fun ac ah => ∃ (a1 : Int), ac = .returned (.int .i64 a1) ∧
 Calls Try.prog 38 #[.pointer s1, .int .i64 a1] ah fun ab aa => ∃ (a3 : Int), ab = .returned (.int .i64 a3) ∧
 R (.int .i64 a3) aa)) ∧
 (a2 = false →
 ∃ (a7 : Option Addr), w.cell? (a4.add 3) = some (.pointer a7) ∧
 Calls Try.prog 32 #[.pointer a7, .slice aj a9 ai] w fun ad ae => ∃ (a0 : Int), ad = .returned (.int .i64 a0) ∧
 Calls Try.prog 38 #[.pointer s1, .int .i64 a0] ae fun af ag => ∃ (a5 : Int), af = .returned (.int .i64 a5) ∧
 R (.int .i64 a5) ag))

theorem snapshot_Store_Append.up (s1 : Option Addr) (ae : Option Addr) (a8 : Nat) (ad : Nat) {R : Value → World → Prop} {w : World} (h : snapshot_Store_Append.N s1 ae a8 ad R w) : snapshot_Store_Append.M s1 ae a8 ad R w := by
  unfold snapshot_Store_Append.M
  unfold snapshot_Store_Append.N at h
  refine bif_of (fun c3 => ?_) (fun c3 => ?_)
  · have h := h.1 (isNone_t c3)
    exact h
  · have h := h.2 (isNone_f c3)
    obtain ⟨a4, a9, h⟩ := h
    refine elim_some a9 ?_
    obtain ⟨a7, al, h⟩ := h
    refine ⟨a7, al, ?_⟩
    refine bif_of (fun c7 => ?_) (fun c7 => ?_)
    · have h := h.1 c7
      refine (journal_Parts.pure (a8 : Int)).mono fun ee ww8 ⟨he, hxx⟩ => ⟨(journal_Parts.F (a8 : Int)), he, ?_⟩
      have ab := (Ext.refl no w).trans hxx
      refine bif_of (fun c9 => ?_) (fun c9 => ?_)
      · have h := h.1 (of_decide_eq_true c9)
        have h := h ww8 ab
        exact h
      · have h := h.2 (Int.not_lt.1 (of_decide_eq_false c9))
        refine elim_some a9 ?_
        obtain ⟨a5, aa, h⟩ := h
        refine ⟨a5, (ab).cell aa id, ?_⟩
        have h := h ww8 ab
        refine h.mono fun ah an h => ?_
        obtain ⟨a1, he, h⟩ := h
        refine ⟨a1, he, ?_⟩
        refine h.mono fun ag af h => ?_
        obtain ⟨a2, he, h⟩ := h
        refine ⟨a2, he, ?_⟩
        exact h
    · have h := h.2 c7
      refine elim_some a9 ?_
      obtain ⟨a6, ac, h⟩ := h
      refine ⟨a6, ac, ?_⟩
      refine h.mono fun ai aj h => ?_
      obtain ⟨a0, he, h⟩ := h
      refine ⟨a0, he, ?_⟩
      refine h.mono fun ak am h => ?_
      obtain ⟨a3, he, h⟩ := h
      refine ⟨a3, he, ?_⟩
      exact h

theorem snapshot_Store_Append.go (s1 : Option Addr) (a1 : Option Addr) (a0 : Nat) (a2 : Nat) {R : Value → World → Prop} {w : World} (h : snapshot_Store_Append.N s1 a1 a0 a2 R w) : Calls Try.prog 11 #[.pointer s1, .slice a1 a0 a2] w fun e w' => ∃ v, e = .returned v ∧ R v w' := snapshot_Store_Append.ok s1 a1 a0 a2 (snapshot_Store_Append.up s1 a1 a0 a2 h)
theorem snapshot_Store_Append.run (s1 : Option Addr) (a1 : Option Addr) (a0 : Nat) (a2 : Nat) {V : Value} {Q : World → Prop} {w : World} (h : snapshot_Store_Append.N s1 a1 a0 a2 (fun v w' => v = V ∧ Q w') w) : Calls Try.prog 11 #[.pointer s1, .slice a1 a0 a2] w (Ret V Q) := (snapshot_Store_Append.go s1 a1 a0 a2 h).mono fun e w' ⟨v, he, hv, hq⟩ => ⟨by rw [he, hv], hq⟩

/-- (*snapshot.Store).Count -/
def snapshot_Store_Count.M (s1 : Option Addr) (R : Value → World → Prop) (w : World) : Prop :=
 bif Option.isNone s1 then (
 R (.int .i64 0) w) else (
 s1.elim False fun a2 =>
 ∃ (a1 : Option Addr), w.cell? (a2.add 3) = some (.pointer a1) ∧
 Calls Try.prog 43 #[.pointer a1] w fun a4 a3 => ∃ (a0 : Int), a4 = .returned (.int .i64 a0) ∧
 R (.int .i64 (IntKind.i64.wrap (a0 - 1))) a3)

theorem snapshot_Store_Count.eq (s1 : Option Addr) (R : Value → World → Prop) (w : World) : mfunc Try.prog [] 15 [.pointer s1] R w = snapshot_Store_Count.M s1 R w := by kernel_rfl
theorem snapshot_Store_Count.ok (s1 : Option Addr) {R : Value → World → Prop} {w : World} (h : snapshot_Store_Count.M s1 R w) : Calls Try.prog 15 #[.pointer s1] w fun e w' => ∃ v, e = .returned v ∧ R v w' :=
  mfunc_ok follows (H := []) (args := [.pointer s1]) (by rw [snapshot_Store_Count.eq]; exact h)

def snapshot_Store_Count.N (s1 : Option Addr) (R : Value → World → Prop) (w : World) : Prop :=
 (s1 = none →
 R (.int .i64 0) w) ∧
 (s1 ≠ none →
 ∃ a3 : Addr, s1 = some a3 ∧
 ∃ (a1 : Option Addr), w.cell? (a3.add 3) = some (.pointer a1) ∧
 Calls Try.prog 43 #[.pointer a1] w fun a2 a4 => ∃ (a0 : Int), a2 = .returned (.int .i64 a0) ∧
 (-9223372036854775808 : Int) ≤ (a0 - 1) ∧ (a0 - 1) < 9223372036854775808 ∧
 R (.int .i64 (a0 - 1)) a4)

theorem snapshot_Store_Count.up (s1 : Option Addr) {R : Value → World → Prop} {w : World} (h : snapshot_Store_Count.N s1 R w) : snapshot_Store_Count.M s1 R w := by
  unfold snapshot_Store_Count.M
  unfold snapshot_Store_Count.N at h
  refine bif_of (fun c2 => ?_) (fun c2 => ?_)
  · have h := h.1 (isNone_t c2)
    exact h
  · have h := h.2 (isNone_f c2)
    obtain ⟨a3, a5, h⟩ := h
    refine elim_some a5 ?_
    obtain ⟨a1, a6, h⟩ := h
    refine ⟨a1, a6, ?_⟩
    refine h.mono fun a8 a7 h => ?_
    obtain ⟨a0, he, h⟩ := h
    refine ⟨a0, he, ?_⟩
    obtain ⟨a4, a2, h⟩ := h
    try rw [w64 a4 a2]
    exact h

theorem snapshot_Store_Count.go (s1 : Option Addr) {R : Value → World → Prop} {w : World} (h : snapshot_Store_Count.N s1 R w) : Calls Try.prog 15 #[.pointer s1] w fun e w' => ∃ v, e = .returned v ∧ R v w' := snapshot_Store_Count.ok s1 (snapshot_Store_Count.up s1 h)
theorem snapshot_Store_Count.run (s1 : Option Addr) {V : Value} {Q : World → Prop} {w : World} (h : snapshot_Store_Count.N s1 (fun v w' => v = V ∧ Q w') w) : Calls Try.prog 15 #[.pointer s1] w (Ret V Q) := (snapshot_Store_Count.go s1 h).mono fun e w' ⟨v, he, hv, hq⟩ => ⟨by rw [he, hv], hq⟩

/-- (*snapshot.Store).Room -/
def snapshot_Store_Room.M (s1 : Option Addr) (R : Value → World → Prop) (w : World) : Prop :=
 bif Option.isNone s1 then (
 R (.int .i64 0) w) else (
 s1.elim False fun a2 =>
 ∃ (a1 : Option Addr), w.cell? (a2.add 3) = some (.pointer a1) ∧
 Calls Try.prog 44 #[.pointer a1] w fun a4 a3 => ∃ (a0 : Int), a4 = .returned (.int .i64 a0) ∧
 R (.int .i64 a0) a3)

theorem snapshot_Store_Room.eq (s1 : Option Addr) (R : Value → World → Prop) (w : World) : mfunc Try.prog [] 16 [.pointer s1] R w = snapshot_Store_Room.M s1 R w := by kernel_rfl
theorem snapshot_Store_Room.ok (s1 : Option Addr) {R : Value → World → Prop} {w : World} (h : snapshot_Store_Room.M s1 R w) : Calls Try.prog 16 #[.pointer s1] w fun e w' => ∃ v, e = .returned v ∧ R v w' :=
  mfunc_ok follows (H := []) (args := [.pointer s1]) (by rw [snapshot_Store_Room.eq]; exact h)

def snapshot_Store_Room.N (s1 : Option Addr) (R : Value → World → Prop) (w : World) : Prop :=
 (s1 = none →
 R (.int .i64 0) w) ∧
 (s1 ≠ none →
 ∃ a3 : Addr, s1 = some a3 ∧
 ∃ (a1 : Option Addr), w.cell? (a3.add 3) = some (.pointer a1) ∧
 Calls Try.prog 44 #[.pointer a1] w fun a2 a4 => ∃ (a0 : Int), a2 = .returned (.int .i64 a0) ∧
 R (.int .i64 a0) a4)

theorem snapshot_Store_Room.up (s1 : Option Addr) {R : Value → World → Prop} {w : World} (h : snapshot_Store_Room.N s1 R w) : snapshot_Store_Room.M s1 R w := by
  unfold snapshot_Store_Room.M
  unfold snapshot_Store_Room.N at h
  refine bif_of (fun c2 => ?_) (fun c2 => ?_)
  · have h := h.1 (isNone_t c2)
    exact h
  · have h := h.2 (isNone_f c2)
    obtain ⟨a3, a2, h⟩ := h
    refine elim_some a2 ?_
    obtain ⟨a1, a4, h⟩ := h
    refine ⟨a1, a4, ?_⟩
    refine h.mono fun a6 a5 h => ?_
    obtain ⟨a0, he, h⟩ := h
    refine ⟨a0, he, ?_⟩
    exact h

theorem snapshot_Store_Room.go (s1 : Option Addr) {R : Value → World → Prop} {w : World} (h : snapshot_Store_Room.N s1 R w) : Calls Try.prog 16 #[.pointer s1] w fun e w' => ∃ v, e = .returned v ∧ R v w' := snapshot_Store_Room.ok s1 (snapshot_Store_Room.up s1 h)
theorem snapshot_Store_Room.run (s1 : Option Addr) {V : Value} {Q : World → Prop} {w : World} (h : snapshot_Store_Room.N s1 (fun v w' => v = V ∧ Q w') w) : Calls Try.prog 16 #[.pointer s1] w (Ret V Q) := (snapshot_Store_Room.go s1 h).mono fun e w' ⟨v, he, hv, hq⟩ => ⟨by rw [he, hv], hq⟩

/-- (*snapshot.Store).Number -/
def snapshot_Store_Number.M (s1 : Option Addr) (R : Value → World → Prop) (w : World) : Prop :=
 bif Option.isNone s1 then (
 R (.int .u32 0) w) else (
 s1.elim False fun a2 =>
 ∃ (a0 : Int), w.cell? (a2.add 2) = some (.int .u32 a0) ∧
 R (.int .u32 a0) w)

theorem snapshot_Store_Number.eq (s1 : Option Addr) (R : Value → World → Prop) (w : World) : mfunc Try.prog [] 17 [.pointer s1] R w = snapshot_Store_Number.M s1 R w := by kernel_rfl
theorem snapshot_Store_Number.ok (s1 : Option Addr) {R : Value → World → Prop} {w : World} (h : snapshot_Store_Number.M s1 R w) : Calls Try.prog 17 #[.pointer s1] w fun e w' => ∃ v, e = .returned v ∧ R v w' :=
  mfunc_ok follows (H := []) (args := [.pointer s1]) (by rw [snapshot_Store_Number.eq]; exact h)

def snapshot_Store_Number.N (s1 : Option Addr) (R : Value → World → Prop) (w : World) : Prop :=
 (s1 = none →
 R (.int .u32 0) w) ∧
 (s1 ≠ none →
 ∃ a3 : Addr, s1 = some a3 ∧
 ∃ (a0 : Int), w.cell? (a3.add 2) = some (.int .u32 a0) ∧
 R (.int .u32 a0) w)

theorem snapshot_Store_Number.up (s1 : Option Addr) {R : Value → World → Prop} {w : World} (h : snapshot_Store_Number.N s1 R w) : snapshot_Store_Number.M s1 R w := by
  unfold snapshot_Store_Number.M
  unfold snapshot_Store_Number.N at h
  refine bif_of (fun c2 => ?_) (fun c2 => ?_)
  · have h := h.1 (isNone_t c2)
    exact h
  · have h := h.2 (isNone_f c2)
    obtain ⟨a3, a1, h⟩ := h
    refine elim_some a1 ?_
    obtain ⟨a0, a2, h⟩ := h
    refine ⟨a0, a2, ?_⟩
    exact h

theorem snapshot_Store_Number.go (s1 : Option Addr) {R : Value → World → Prop} {w : World} (h : snapshot_Store_Number.N s1 R w) : Calls Try.prog 17 #[.pointer s1] w fun e w' => ∃ v, e = .returned v ∧ R v w' := snapshot_Store_Number.ok s1 (snapshot_Store_Number.up s1 h)
theorem snapshot_Store_Number.run (s1 : Option Addr) {V : Value} {Q : World → Prop} {w : World} (h : snapshot_Store_Number.N s1 (fun v w' => v = V ∧ Q w') w) : Calls Try.prog 17 #[.pointer s1] w (Ret V Q) := (snapshot_Store_Number.go s1 h).mono fun e w' ⟨v, he, hv, hq⟩ => ⟨by rw [he, hv], hq⟩

/-- snapshot.Open -/
def snapshot_Open.M (d1 : Option Addr) (R : Value → World → Prop) (w : World) : Prop :=
 bif Option.isNone d1 then (
 R (.tuple #[.pointer none, .slice none 0 0, .slice none 0 0, .int .i64 23]) w) else (
 Calls Try.prog 22 #[.pointer d1] w fun b3 b2 => ∃ (ab : Int), b3 = .returned (.int .i64 ab) ∧
 bif decide (ab < 6) then (
 R (.tuple #[.pointer none, .slice none 0 0, .slice none 0 0, .int .i64 1]) b2) else (
 Calls Try.prog 23 #[.pointer d1] b2 fun b5 b1 => ∃ (ai : Bool), b5 = .returned (.bool ai) ∧
 bif ai then (
 R (.tuple #[.pointer none, .slice none 0 0, .slice none 0 0, .int .i64 19]) b1) else (
 Calls Try.prog 22 #[.pointer d1] b1 fun b6 a1 => ∃ (aa : Int), b6 = .returned (.int .i64 aa) ∧
 2 ≠ (0 : Int) ∧ thenW (a1.alloc (.cells #[.pointer d1, .int .i64 (IntKind.i64.wrap (Int.tdiv (IntKind.i64.wrap (aa - 2)) 2)), .int .u32 0, .pointer none, .bool false] 60)) fun au =>
 Calls Try.prog 24 #[.func (.func 25) #[.pointer d1] #[], .int .i64 0] au fun av az => ∃ (a6 : Int), av = .returned (.int .u32 a6) ∧
 Calls Try.prog 24 #[.func (.func 25) #[.pointer d1] #[], .int .i64 1] az fun ar al => ∃ (a4 : Int), ar = .returned (.int .u32 a4) ∧
 canStore al (((blk a1.heap.size).add 2).add 0) ∧
 thenW (al.setCell (((blk a1.heap.size).add 2).add 0) (.int .u32 (if (a4 : Int) > a6 then a4 else a6))) fun aj =>
 ∃ (ac : Int), aj.cell? ((blk a1.heap.size).add 2) = some (.int .u32 ac) ∧
 bif ac == 0 then (
 Calls Try.prog 10 #[.pointer (some (blk a1.heap.size)), .slice none 0 0] aj fun ax an => ∃ (a3 : Int), ax = .returned (.int .i64 a3) ∧
 bif a3 != 0 then (
 R (.tuple #[.pointer none, .slice none 0 0, .slice none 0 0, .int .i64 a3]) an) else (
 R (.tuple #[.pointer (some (blk a1.heap.size)), .slice none 0 0, .slice none 0 0, .int .i64 0]) an)) else (
 thenW (aj.drew) fun ag =>
 ∃ (a9 : Int), ag.cell? ((blk a1.heap.size).add 2) = some (.int .u32 a9) ∧
 ∃ (ad : Int), ag.cell? ((blk a1.heap.size).add 1) = some (.int .i64 ad) ∧
 ∃ (a7 : Int), ag.cell? ((blk a1.heap.size).add 2) = some (.int .u32 a7) ∧
 Calls Try.prog 27 #[.pointer (some (blk a1.heap.size)), .int .u32 a9] ag fun b0 ak => ∃ (af : Int), b0 = .returned (.int .i64 af) ∧
 ak.cell? ((blk a1.heap.size).add 2) = some (.int .u32 a7) ∧
 ak.cell? ((blk a1.heap.size).add 1) = some (.int .i64 ad) ∧
 Calls Try.prog 26 #[.pointer d1, .int .i64 af, .int .i64 ad, .int .u32 a7] ak fun ay ah => ∃ (ae : Option Addr) (a2 : Option Addr) (a0 : Nat) (a5 : Nat) (a8 : Int), ay = .returned (.tuple #[.pointer ae, .slice a2 a0 a5, .int .i64 a8]) ∧
 bif a8 != 0 then (
 R (.tuple #[.pointer none, .slice none 0 0, .slice none 0 0, .int .i64 a8]) ah) else (
 bif (a0 : Int) == 0 then (
 R (.tuple #[.pointer none, .slice none 0 0, .slice none 0 0, .int .i64 4]) ah) else (
 canStore ah (((blk a1.heap.size).add 3).add 0) ∧
 thenW (ah.setCell (((blk a1.heap.size).add 3).add 0) (.pointer ae)) fun aw =>
 thenW (aw.drew) fun ap =>
 a2.elim False fun b4 =>
 0 ≤ (0 : Int) ∧ (0 : Int) < (a0 : Int) ∧
 ∃ (ao : Option Addr) (am : Nat) (aq : Nat), ap.cell? (b4.add (Int.toNat 0 * 1)) = some (.slice ao am aq) ∧
 (0 : Int) ≤ (1 : Int) ∧ (1 : Int) ≤ (a0 : Int) ∧
 R (.tuple #[.pointer (some (blk a1.heap.size)), .slice ao am aq, .slice (if a5 = Int.toNat 1 then a2 else Option.map (fun z : Addr => z.add ((Int.toNat 1) * 1)) a2) (a0 - (Int.toNat 1)) (a5 - (Int.toNat 1)), .int .i64 0]) ap))))))

theorem snapshot_Open.eq (d1 : Option Addr) (R : Value → World → Prop) (w : World) : mfunc Try.prog [] 8 [.pointer d1] R w = snapshot_Open.M d1 R w := by kernel_rfl
theorem snapshot_Open.ok (d1 : Option Addr) {R : Value → World → Prop} {w : World} (h : snapshot_Open.M d1 R w) : Calls Try.prog 8 #[.pointer d1] w fun e w' => ∃ v, e = .returned v ∧ R v w' :=
  mfunc_ok follows (H := []) (args := [.pointer d1]) (by rw [snapshot_Open.eq]; exact h)

def snapshot_Open.N (d1 : Option Addr) (R : Value → World → Prop) (w : World) : Prop :=
 (d1 = none →
 R (.tuple #[.pointer none, .slice none 0 0, .slice none 0 0, .int .i64 23]) w) ∧
 (d1 ≠ none →
 Calls Try.prog 22 #[.pointer d1] w fun b7 b3 => ∃ (a4 : Int), b7 = .returned (.int .i64 a4) ∧
 (a4 < 6 →
 R (.tuple #[.pointer none, .slice none 0 0, .slice none 0 0, .int .i64 1]) b3) ∧
 ((6 : Int) ≤ a4 →
 Calls Try.prog 23 #[.pointer d1] b3 fun b6 b5 => ∃ (ah : Bool), b6 = .returned (.bool ah) ∧
 (ah = true →
 R (.tuple #[.pointer none, .slice none 0 0, .slice none 0 0, .int .i64 19]) b5) ∧
 (ah = false →
 Calls Try.prog 22 #[.pointer d1] b5 fun ax av => ∃ (a2 : Int), ax = .returned (.int .i64 a2) ∧
 (-9223372036854775808 : Int) ≤ (a2 - 2) ∧ (a2 - 2) < 9223372036854775808 ∧
 ∀ (aj : World) (ac : Nat), Ext no av aj → Blk aj ac 60 [.pointer d1, .int .i64 (IntKind.i64.wrap (Int.tdiv (a2 - 2) 2)), .int .u32 0, .pointer none, .bool false] → av.heap.size ≤ ac → ac < aj.heap.size →
 Calls Try.prog 24 #[.func (.func 25) #[.pointer d1] #[], .int .i64 0] aj fun b0 b1 => ∃ (a5 : Int), b0 = .returned (.int .u32 a5) ∧
 Calls Try.prog 24 #[.func (.func 25) #[.pointer d1] #[], .int .i64 1] b1 fun b2 al => ∃ (a8 : Int), b2 = .returned (.int .u32 a8) ∧
 canStore al (((blk ac).add 2).add 0) ∧
 thenW (al.setCell (((blk ac).add 2).add 0) (.int .u32 (if (a8 : Int) > a5 then a8 else a5))) fun af =>
 ∃ (a6 : Int), af.cell? ((blk ac).add 2) = some (.int .u32 a6) ∧
 (a6 = 0 →
 Calls Try.prog 10 #[.pointer (some (blk ac)), .slice none 0 0] af fun aw ao => ∃ (a1 : Int), aw = .returned (.int .i64 a1) ∧
 (a1 ≠ 0 →
 R (.tuple #[.pointer none, .slice none 0 0, .slice none 0 0, .int .i64 a1]) ao) ∧
 (a1 = 0 →
 R (.tuple #[.pointer (some (blk ac)), .slice none 0 0, .slice none 0 0, .int .i64 0]) ao)) ∧
 (a6 ≠ 0 →
 ∃ (ab : Int), af.cell? ((blk ac).add 2) = some (.int .u32 ab) ∧
 ∃ (ad : Int), af.cell? ((blk ac).add 1) = some (.int .i64 ad) ∧
 ∃ (a9 : Int), af.cell? ((blk ac).add 2) = some (.int .u32 a9) ∧
 ∀ (aq : World), Ext no af aq →
 Calls Try.prog 27 #[.pointer (some (blk ac)), .int .u32 ab] aq fun ay ak => ∃ (ag : Int), ay = .returned (.int .i64 ag) ∧
 ak.cell? ((blk ac).add 2) = some (.int .u32 a9) ∧
 ak.cell? ((blk ac).add 1) = some (.int .i64 ad) ∧
 Calls Try.prog 26 #[.pointer d1, .int .i64 ag, .int .i64 ad, .int .u32 a9] ak fun az ai => ∃ (ae : Option Addr) (a7 : Option Addr) (a0 : Nat) (aa : Nat) (a3 : Int), az = .returned (.tuple #[.pointer ae, .slice a7 a0 aa, .int .i64 a3]) ∧
 (a3 ≠ 0 →
 R (.tuple #[.pointer none, .slice none 0 0, .slice none 0 0, .int .i64 a3]) ai) ∧
 (a3 = 0 →
 ((a0 : Int) = 0 →
 R (.tuple #[.pointer none, .slice none 0 0, .slice none 0 0, .int .i64 4]) ai) ∧
 ((a0 : Int) ≠ 0 →
 canStore ai (((blk ac).add 3).add 0) ∧
 thenW (ai.setCell (((blk ac).add 3).add 0) (.pointer ae)) fun ar =>
 ∃ b4 : Addr, a7 = some b4 ∧
 (0 : Int) < (a0 : Int) ∧
 ∃ (am : Option Addr) (ap : Nat) (au : Nat), ar.cell? (b4.add (Int.toNat 0 * 1)) = some (.slice am ap au) ∧
 (1 : Int) ≤ (a0 : Int) ∧ 
 ∀ (an : World), Ext no ar an →
 R (.tuple #[.pointer (some (blk ac)), .slice am ap au, .slice (cutA a7 aa 1 1) (a0 - 1) (aa - 1), .int .i64 0]) an))))))

theorem snapshot_Open.up (d1 : Option Addr) {R : Value → World → Prop} {w : World} (h : snapshot_Open.N d1 R w) : snapshot_Open.M d1 R w := by
  unfold snapshot_Open.M
  unfold snapshot_Open.N at h
  refine bif_of (fun c2 => ?_) (fun c2 => ?_)
  · have h := h.1 (isNone_t c2)
    exact h
  · have h := h.2 (isNone_f c2)
    refine h.mono fun br bs h => ?_
    obtain ⟨a3, he, h⟩ := h
    refine ⟨a3, he, ?_⟩
    refine bif_of (fun c6 => ?_) (fun c6 => ?_)
    · have h := h.1 (of_decide_eq_true c6)
      exact h
    · have h := h.2 (Int.not_lt.1 (of_decide_eq_false c6))
      refine h.mono fun bq bu h => ?_
      obtain ⟨ai, he, h⟩ := h
      refine ⟨ai, he, ?_⟩
      refine bif_of (fun ap => ?_) (fun ap => ?_)
      · have h := h.1 ap
        exact h
      · have h := h.2 ap
        refine h.mono fun be ag h => ?_
        obtain ⟨a1, he, h⟩ := h
        refine ⟨a1, he, ?_⟩
        obtain ⟨bj, bc, h⟩ := h
        try rw [w64 bj bc]
        refine ⟨by decide, ?_⟩
        refine thenW_in fun az ak => ?_
        have h := h az ag.heap.size ((Ext.refl no ag).x_alloc ak) (Blk.of_new ak) ((Ext.refl no ag)).size (size_lt_alloc ak)
        refine h.mono fun bk bl h => ?_
        obtain ⟨a2, he, h⟩ := h
        refine ⟨a2, he, ?_⟩
        refine h.mono fun bm b9 h => ?_
        obtain ⟨a8, he, h⟩ := h
        refine ⟨a8, he, ?_⟩
        obtain ⟨hcs, h⟩ := h
        refine ⟨hcs, thenW_in fun aq ba => ?_⟩
        replace h := thenW_out h ba
        obtain ⟨a5, b1, h⟩ := h
        refine ⟨a5, b1, ?_⟩
        refine bif_of (fun al => ?_) (fun al => ?_)
        · have h := h.1 (beq_t al)
          refine h.mono fun bf bh h => ?_
          obtain ⟨a0, he, h⟩ := h
          refine ⟨a0, he, ?_⟩
          refine bif_of (fun ao => ?_) (fun ao => ?_)
          · have h := h.1 (bne_t ao)
            exact h
          · have h := h.2 (bne_f ao)
            exact h
        · have h := h.2 (beq_f al)
          refine thenW_in fun ay bb => ?_
          have ab := (Ext.refl no aq).x_drew bb
          obtain ⟨a4, au, h⟩ := h
          refine ⟨a4, (ab).cell au id, ?_⟩
          obtain ⟨af, b2, h⟩ := h
          refine ⟨af, (ab).cell b2 id, ?_⟩
          obtain ⟨a9, aj, h⟩ := h
          refine ⟨a9, (ab).cell aj id, ?_⟩
          have h := h ay ab
          refine h.mono fun bg b8 h => ?_
          obtain ⟨ae, he, h⟩ := h
          refine ⟨ae, he, ?_⟩
          obtain ⟨b0, b5, h⟩ := h
          refine ⟨b0, b5, ?_⟩
          refine h.mono fun bi bd h => ?_
          obtain ⟨ad, a6, a7, aa, ac, he, h⟩ := h
          refine ⟨ad, a6, a7, aa, ac, he, ?_⟩
          refine bif_of (fun am => ?_) (fun am => ?_)
          · have h := h.1 (bne_t am)
            exact h
          · have h := h.2 (bne_f am)
            refine bif_of (fun ax => ?_) (fun ax => ?_)
            · have h := h.1 (beq_t ax)
              exact h
            · have h := h.2 (beq_f ax)
              obtain ⟨hcs, h⟩ := h
              refine ⟨hcs, thenW_in fun b4 bp => ?_⟩
              replace h := thenW_out h bp
              refine thenW_in fun av bo => ?_
              have ah := (Ext.refl no b4).x_drew bo
              obtain ⟨bt, b3, h⟩ := h
              refine elim_some b3 ?_
              obtain ⟨b7, h⟩ := h
              refine ⟨by decide, b7, ?_⟩
              obtain ⟨ar, aw, b6, an, h⟩ := h
              refine ⟨ar, aw, b6, (ah).cell an id, ?_⟩
              obtain ⟨bn, h⟩ := h
              refine ⟨by decide, bn, ?_⟩
              have h := h av ah
              exact h

theorem snapshot_Open.go (d1 : Option Addr) {R : Value → World → Prop} {w : World} (h : snapshot_Open.N d1 R w) : Calls Try.prog 8 #[.pointer d1] w fun e w' => ∃ v, e = .returned v ∧ R v w' := snapshot_Open.ok d1 (snapshot_Open.up d1 h)
/-- cachetteref11.Head -/
def cachetteref11_Head.M (a4 : Option Addr) (a1 : Nat) (ah : Nat) (a2 : Int) (R : Value → World → Prop) (w : World) : Prop :=
 bif (a1 : Int) != 64 then (
 R (.int .u32 0) w) else (
 a4.elim False fun a3 =>
 0 ≤ (0 : Int) ∧ (0 : Int) < (a1 : Int) ∧
 ∃ (x4 : Int), w.cell? (a3.add (Int.toNat 0 * 1)) = some (.int .u8 x4) ∧
 bif x4 != 94 then (
 R (.int .u32 0) w) else (
 ∃ (I0 : Nat → List Value → World → Prop) (m6 : Nat), I0 m6 [.int .i64 5] w ∧ ∀ (m7 : Nat) (a5 : World) (i5 : Int), I0 m7 [.int .i64 i5] a5 →
 bif decide (i5 < 64) then (
 a4.elim False fun a9 =>
 0 ≤ (i5 : Int) ∧ (i5 : Int) < (a1 : Int) ∧
 ∃ (ac : Int), a5.cell? (a9.add (Int.toNat i5 * 1)) = some (.int .u8 ac) ∧
 bif ac != 0 then (
 R (.int .u32 0) a5) else (
 ∃ ab, ab < m7 ∧ I0 ab [.int .i64 (IntKind.i64.wrap (i5 + 1))] a5)) else (
 thenW (a5.drew) fun a0 =>
 a4.elim False fun ad =>
 0 ≤ (1 : Int) ∧ (1 : Int) < (a1 : Int) ∧
 ∃ (a6 : Int), a0.cell? (ad.add (Int.toNat 1 * 1)) = some (.int .u8 a6) ∧
 a4.elim False fun ae =>
 0 ≤ (2 : Int) ∧ (2 : Int) < (a1 : Int) ∧
 ∃ (a8 : Int), a0.cell? (ae.add (Int.toNat 2 * 1)) = some (.int .u8 a8) ∧
 a4.elim False fun ag =>
 0 ≤ (3 : Int) ∧ (3 : Int) < (a1 : Int) ∧
 ∃ (aa : Int), a0.cell? (ag.add (Int.toNat 3 * 1)) = some (.int .u8 aa) ∧
 a4.elim False fun af =>
 0 ≤ (4 : Int) ∧ (4 : Int) < (a1 : Int) ∧
 ∃ (a7 : Int), a0.cell? (af.add (Int.toNat 4 * 1)) = some (.int .u8 a7) ∧
 bif (IntKind.u32.wrap ((IntKind.u32.wrap ((IntKind.u32.wrap ((IntKind.u32.wrap ((IntKind.u32.wrap a6) * 16777216)) + (IntKind.u32.wrap ((IntKind.u32.wrap a8) * 65536)))) + (IntKind.u32.wrap ((IntKind.u32.wrap aa) * 256)))) + (IntKind.u32.wrap a7))) == 0 then (
 R (.int .u32 0) a0) else (
 2 ≠ (0 : Int) ∧ bif (IntKind.i64.wrap (Int.tmod (IntKind.u32.wrap ((IntKind.u32.wrap ((IntKind.u32.wrap ((IntKind.u32.wrap ((IntKind.u32.wrap a6) * 16777216)) + (IntKind.u32.wrap ((IntKind.u32.wrap a8) * 65536)))) + (IntKind.u32.wrap ((IntKind.u32.wrap aa) * 256)))) + (IntKind.u32.wrap a7))) 2)) != (IntKind.i64.wrap ((1 : Int) - a2)) then (
 R (.int .u32 0) a0) else (
 R (.int .u32 (IntKind.u32.wrap ((IntKind.u32.wrap ((IntKind.u32.wrap ((IntKind.u32.wrap ((IntKind.u32.wrap a6) * 16777216)) + (IntKind.u32.wrap ((IntKind.u32.wrap a8) * 65536)))) + (IntKind.u32.wrap ((IntKind.u32.wrap aa) * 256)))) + (IntKind.u32.wrap a7)))) a0)))))

theorem cachetteref11_Head.eq (b1a : Option Addr) (b1n : Nat) (b1c : Nat) (which2 : Int) (R : Value → World → Prop) (w : World) : mfunc Try.prog [(0, [0, 1], [(5, (.one (.int .i64)))])] 39 [.slice b1a b1n b1c, .int .i64 which2] R w = cachetteref11_Head.M b1a b1n b1c which2 R w := by kernel_rfl
theorem cachetteref11_Head.ok (a2 : Option Addr) (a1 : Nat) (a3 : Nat) (a0 : Int) {R : Value → World → Prop} {w : World} (h : cachetteref11_Head.M a2 a1 a3 a0 R w) : Calls Try.prog 39 #[.slice a2 a1 a3, .int .i64 a0] w fun e w' => ∃ v, e = .returned v ∧ R v w' :=
  mfunc_ok follows (H := [(0, [0, 1], [(5, (.one (.int .i64)))])]) (args := [.slice a2 a1 a3, .int .i64 a0]) (by rw [cachetteref11_Head.eq]; exact h)

def cachetteref11_Head.N (ac : Option Addr) (a3 : Nat) (ad : Nat) (a1 : Int) (R : Value → World → Prop) (w : World) : Prop :=
 ((a3 : Int) ≠ 64 →
 R (.int .u32 0) w) ∧
 ((a3 : Int) = 64 →
 ∃ a4 : Addr, ac = some a4 ∧
 (0 : Int) < (a3 : Int) ∧
 ∃ (x6 : Int), w.cell? (a4.add (Int.toNat 0 * 1)) = some (.int .u8 x6) ∧
 (x6 ≠ 94 →
 R (.int .u32 0) w) ∧
 (x6 = 94 →
 ∃ (I0 : Nat → List Value → World → Prop) (m9 : Nat), I0 m9 [.int .i64 5] w ∧ ∀ (aa : Nat) (a0 : World) (i8 : Int), I0 aa [.int .i64 i8] a0 →
 (i8 < 64 →
 0 ≤ (i8 : Int) ∧ (i8 : Int) < (a3 : Int) ∧
 ∃ (a9 : Int), a0.cell? (a4.add (Int.toNat i8 * 1)) = some (.int .u8 a9) ∧
 (a9 ≠ 0 →
 R (.int .u32 0) a0) ∧
 (a9 = 0 →
 (-9223372036854775808 : Int) ≤ (i8 + 1) ∧ (i8 + 1) < 9223372036854775808 ∧
 ∃ ab, ab < aa ∧ I0 ab [.int .i64 (i8 + 1)] a0)) ∧
 ((64 : Int) ≤ i8 →
 (1 : Int) < (a3 : Int) ∧
 ∃ (a5 : Int), a0.cell? (a4.add (Int.toNat 1 * 1)) = some (.int .u8 a5) ∧
 (2 : Int) < (a3 : Int) ∧
 ∃ (a8 : Int), a0.cell? (a4.add (Int.toNat 2 * 1)) = some (.int .u8 a8) ∧
 (3 : Int) < (a3 : Int) ∧
 ∃ (a7 : Int), a0.cell? (a4.add (Int.toNat 3 * 1)) = some (.int .u8 a7) ∧
 (4 : Int) < (a3 : Int) ∧
 ∃ (a6 : Int), a0.cell? (a4.add (Int.toNat 4 * 1)) = some (.int .u8 a6) ∧
 ((IntKind.u32.wrap ((IntKind.u32.wrap ((IntKind.u32.wrap ((IntKind.u32.wrap ((IntKind.u32.wrap a5) * 16777216)) + (IntKind.u32.wrap ((IntKind.u32.wrap a8) * 65536)))) + (IntKind.u32.wrap ((IntKind.u32.wrap a7) * 256)))) + (IntKind.u32.wrap a6))) = 0 →
 ∀ (a2 : World), Ext no a0 a2 →
 R (.int .u32 0) a2) ∧
 ((IntKind.u32.wrap ((IntKind.u32.wrap ((IntKind.u32.wrap ((IntKind.u32.wrap ((IntKind.u32.wrap a5) * 16777216)) + (IntKind.u32.wrap ((IntKind.u32.wrap a8) * 65536)))) + (IntKind.u32.wrap ((IntKind.u32.wrap a7) * 256)))) + (IntKind.u32.wrap a6))) ≠ 0 →
 (-9223372036854775808 : Int) ≤ (Int.tmod (IntKind.u32.wrap ((IntKind.u32.wrap ((IntKind.u32.wrap ((IntKind.u32.wrap ((IntKind.u32.wrap a5) * 16777216)) + (IntKind.u32.wrap ((IntKind.u32.wrap a8) * 65536)))) + (IntKind.u32.wrap ((IntKind.u32.wrap a7) * 256)))) + (IntKind.u32.wrap a6))) 2) ∧ (Int.tmod (IntKind.u32.wrap ((IntKind.u32.wrap ((IntKind.u32.wrap ((IntKind.u32.wrap ((IntKind.u32.wrap a5) * 16777216)) + (IntKind.u32.wrap ((IntKind.u32.wrap a8) * 65536)))) + (IntKind.u32.wrap ((IntKind.u32.wrap a7) * 256)))) + (IntKind.u32.wrap a6))) 2) < 9223372036854775808 ∧
 (-9223372036854775808 : Int) ≤ ((1 : Int) - a1) ∧ ((1 : Int) - a1) < 9223372036854775808 ∧
 ((Int.tmod (IntKind.u32.wrap ((IntKind.u32.wrap ((IntKind.u32.wrap ((IntKind.u32.wrap ((IntKind.u32.wrap a5) * 16777216)) + (IntKind.u32.wrap ((IntKind.u32.wrap a8) * 65536)))) + (IntKind.u32.wrap ((IntKind.u32.wrap a7) * 256)))) + (IntKind.u32.wrap a6))) 2) ≠ ((1 : Int) - a1) →
 ∀ (a2 : World), Ext no a0 a2 →
 R (.int .u32 0) a2) ∧
 ((Int.tmod (IntKind.u32.wrap ((IntKind.u32.wrap ((IntKind.u32.wrap ((IntKind.u32.wrap ((IntKind.u32.wrap a5) * 16777216)) + (IntKind.u32.wrap ((IntKind.u32.wrap a8) * 65536)))) + (IntKind.u32.wrap ((IntKind.u32.wrap a7) * 256)))) + (IntKind.u32.wrap a6))) 2) = ((1 : Int) - a1) →
 ∀ (a2 : World), Ext no a0 a2 →
 R (.int .u32 (IntKind.u32.wrap ((IntKind.u32.wrap ((IntKind.u32.wrap ((IntKind.u32.wrap ((IntKind.u32.wrap a5) * 16777216)) + (IntKind.u32.wrap ((IntKind.u32.wrap a8) * 65536)))) + (IntKind.u32.wrap ((IntKind.u32.wrap a7) * 256)))) + (IntKind.u32.wrap a6)))) a2)))))

theorem cachetteref11_Head.up (ak : Option Addr) (ai : Nat) (aj : Nat) (a2 : Int) {R : Value → World → Prop} {w : World} (h : cachetteref11_Head.N ak ai aj a2 R w) : cachetteref11_Head.M ak ai aj a2 R w := by
  unfold cachetteref11_Head.M
  unfold cachetteref11_Head.N at h
  refine bif_of (fun c3 => ?_) (fun c3 => ?_)
  · have h := h.1 (bne_t c3)
    exact h
  · have h := h.2 (bne_f c3)
    obtain ⟨a4, a5, h⟩ := h
    refine elim_some a5 ?_
    obtain ⟨a1, h⟩ := h
    refine ⟨by decide, a1, ?_⟩
    obtain ⟨x6, ao, h⟩ := h
    refine ⟨x6, ao, ?_⟩
    refine bif_of (fun c7 => ?_) (fun c7 => ?_)
    · have h := h.1 (bne_t c7)
      exact h
    · have h := h.2 (bne_f c7)
      obtain ⟨I0, m9, h0, h⟩ := h
      refine ⟨I0, m9, h0, fun ap a6 i8 hI => ?_⟩
      have h := h ap a6 i8 hI
      refine bif_of (fun a9 => ?_) (fun a9 => ?_)
      · have h := h.1 (of_decide_eq_true a9)
        refine elim_some a5 ?_
        obtain ⟨aq, a1, h⟩ := h
        refine ⟨aq, a1, ?_⟩
        obtain ⟨au, af, h⟩ := h
        refine ⟨au, af, ?_⟩
        refine bif_of (fun ab => ?_) (fun ab => ?_)
        · have h := h.1 (bne_t ab)
          exact h
        · have h := h.2 (bne_f ab)
          obtain ⟨a8, a7, h⟩ := h
          try rw [w64 a8 a7]
          obtain ⟨ar, hk, h⟩ := h
          exact ⟨ar, hk, h⟩
      · have h := h.2 (Int.not_lt.1 (of_decide_eq_false a9))
        refine thenW_in fun a3 aw => ?_
        have a0 := (Ext.refl no a6).x_drew aw
        refine elim_some a5 ?_
        obtain ⟨a1, h⟩ := h
        refine ⟨by decide, a1, ?_⟩
        obtain ⟨am, ah, h⟩ := h
        refine ⟨am, (a0).cell ah id, ?_⟩
        refine elim_some a5 ?_
        obtain ⟨a1, h⟩ := h
        refine ⟨by decide, a1, ?_⟩
        obtain ⟨an, ag, h⟩ := h
        refine ⟨an, (a0).cell ag id, ?_⟩
        refine elim_some a5 ?_
        obtain ⟨a1, h⟩ := h
        refine ⟨by decide, a1, ?_⟩
        obtain ⟨av, ac, h⟩ := h
        refine ⟨av, (a0).cell ac id, ?_⟩
        refine elim_some a5 ?_
        obtain ⟨a1, h⟩ := h
        refine ⟨by decide, a1, ?_⟩
        obtain ⟨al, ad, h⟩ := h
        refine ⟨al, (a0).cell ad id, ?_⟩
        refine bif_of (fun ae => ?_) (fun ae => ?_)
        · have h := h.1 (beq_t ae)
          have h := h a3 a0
          exact h
        · have h := h.2 (beq_f ae)
          refine ⟨by decide, ?_⟩
          obtain ⟨a8, a7, h⟩ := h
          try rw [w64 a8 a7]
          obtain ⟨a8, a7, h⟩ := h
          try rw [w64 a8 a7]
          refine bif_of (fun aa => ?_) (fun aa => ?_)
          · have h := h.1 (bne_t aa)
            have h := h a3 a0
            exact h
          · have h := h.2 (bne_f aa)
            have h := h a3 a0
            exact h

theorem cachetteref11_Head.go (a2 : Option Addr) (a1 : Nat) (a3 : Nat) (a0 : Int) {R : Value → World → Prop} {w : World} (h : cachetteref11_Head.N a2 a1 a3 a0 R w) : Calls Try.prog 39 #[.slice a2 a1 a3, .int .i64 a0] w fun e w' => ∃ v, e = .returned v ∧ R v w' := cachetteref11_Head.ok a2 a1 a3 a0 (cachetteref11_Head.up a2 a1 a3 a0 h)
theorem cachetteref11_Head.run (a2 : Option Addr) (a1 : Nat) (a3 : Nat) (a0 : Int) {V : Value} {Q : World → Prop} {w : World} (h : cachetteref11_Head.N a2 a1 a3 a0 (fun v w' => v = V ∧ Q w') w) : Calls Try.prog 39 #[.slice a2 a1 a3, .int .i64 a0] w (Ret V Q) := (cachetteref11_Head.go a2 a1 a3 a0 h).mono fun e w' ⟨v, he, hv, hq⟩ => ⟨by rw [he, hv], hq⟩

/-- cachetteref11.Of -/
def cachetteref11_Of.M (eb : Option Addr) (a0 : Nat) (dx : Nat) (R : Value → World → Prop) (w : World) : Prop :=
 thenW (w.alloc (.cells #[.int .u32 0, .slice none 0 0, .slice none 0 0, .int .i64 0, .int .i64 0] 41)) fun iv =>
 bif decide ((a0 : Int) < 6) then (
 canStore iv ((blk w.heap.size).add 0) ∧
 thenW (iv.setCell ((blk w.heap.size).add 0) (.int .u32 0)) fun iz =>
 canStore iz ((blk w.heap.size).add 1) ∧
 thenW (iz.setCell ((blk w.heap.size).add 1) (.slice none 0 0)) fun j3 =>
 canStore j3 ((blk w.heap.size).add 2) ∧
 thenW (j3.setCell ((blk w.heap.size).add 2) (.slice none 0 0)) fun j0 =>
 canStore j0 ((blk w.heap.size).add 3) ∧
 thenW (j0.setCell ((blk w.heap.size).add 3) (.int .i64 0)) fun j1 =>
 canStore j1 ((blk w.heap.size).add 4) ∧
 thenW (j1.setCell ((blk w.heap.size).add 4) (.int .i64 1)) fun iy =>
 ∃ (de : Int) (dj : Option Addr) (dk : Nat) (dn : Nat) (ax : Option Addr) (b2 : Nat) (av : Nat) (ds : Int) (ed : Int), cellsAt iy (blk w.heap.size) [.int .u32 de, .slice dj dk dn, .slice ax b2 av, .int .i64 ds, .int .i64 ed] 0 ∧
 R (.agg #[.int .u32 de, .slice dj dk dn, .slice ax b2 av, .int .i64 ds, .int .i64 ed]) iy) else (
 thenW (iv.drew) fun gd =>
 eb.elim False fun j5 =>
 0 ≤ (0 : Int) ∧ (0 : Int) < (a0 : Int) ∧
 ∃ (gs : Option Addr) (ib : Nat) (gr : Nat), gd.cell? (j5.add (Int.toNat 0 * 1)) = some (.slice gs ib gr) ∧
 eb.elim False fun j2 =>
 0 ≤ (1 : Int) ∧ (1 : Int) < (a0 : Int) ∧
 ∃ (gb : Option Addr) (ge : Nat) (gf : Nat), gd.cell? (j2.add (Int.toNat 1 * 1)) = some (.slice gb ge gf) ∧
 Calls Try.prog 39 #[.slice gs ib gr, .int .i64 0] gd fun ip ie => ∃ (a1 : Int), ip = .returned (.int .u32 a1) ∧
 ie.cell? (j2.add (Int.toNat 1 * 1)) = some (.slice gb ge gf) ∧
 Calls Try.prog 39 #[.slice gb ge gf, .int .i64 1] ie fun iw ei => ∃ (ae : Int), iw = .returned (.int .u32 ae) ∧
 2 ≠ (0 : Int) ∧ bif a1 == 0 then (
 bif ae == 0 then (
 (0 : Int) ≤ ((IntKind.i64.wrap ((2 : Int) + (IntKind.i64.wrap (Int.tdiv (IntKind.i64.wrap ((a0 : Int) - 2)) 2)))) : Int) ∧ ((IntKind.i64.wrap ((2 : Int) + (IntKind.i64.wrap (Int.tdiv (IntKind.i64.wrap ((a0 : Int) - 2)) 2)))) : Int) ≤ (dx : Int) ∧ (0 : Int) ≤ (2 : Int) ∧ (2 : Int) ≤ ((IntKind.i64.wrap ((2 : Int) + (IntKind.i64.wrap (Int.tdiv (IntKind.i64.wrap ((a0 : Int) - 2)) 2)))) : Int) ∧
 Calls Try.prog 40 #[.slice (if dx = Int.toNat 2 then eb else Option.map (fun z : Addr => z.add ((Int.toNat 2) * 1)) eb) ((Int.toNat (IntKind.i64.wrap ((2 : Int) + (IntKind.i64.wrap (Int.tdiv (IntKind.i64.wrap ((a0 : Int) - 2)) 2))))) - (Int.toNat 2)) (dx - (Int.toNat 2)), .int .u32 1] ei fun io eu => ∃ (et : Option Addr) (ew : Nat) (ev : Nat) (gg : Int) (en : Int), io = .returned (.tuple #[.slice et ew ev, .int .i64 gg, .int .u32 en]) ∧
 bif en == 4294967295 then (
 canStore eu ((blk w.heap.size).add 0) ∧
 thenW (eu.setCell ((blk w.heap.size).add 0) (.int .u32 0)) fun i5 =>
 canStore i5 ((blk w.heap.size).add 1) ∧
 thenW (i5.setCell ((blk w.heap.size).add 1) (.slice none 0 0)) fun i4 =>
 canStore i4 ((blk w.heap.size).add 2) ∧
 thenW (i4.setCell ((blk w.heap.size).add 2) (.slice none 0 0)) fun ic =>
 canStore ic ((blk w.heap.size).add 3) ∧
 thenW (ic.setCell ((blk w.heap.size).add 3) (.int .i64 0)) fun im =>
 canStore im ((blk w.heap.size).add 4) ∧
 thenW (im.setCell ((blk w.heap.size).add 4) (.int .i64 2)) fun gm =>
 ∃ (bz : Int) (cz : Option Addr) (df : Nat) (d0 : Nat) (ba : Option Addr) (b4 : Nat) (b5 : Nat) (dp : Int) (el : Int), cellsAt gm (blk w.heap.size) [.int .u32 bz, .slice cz df d0, .slice ba b4 b5, .int .i64 dp, .int .i64 el] 0 ∧
 R (.agg #[.int .u32 bz, .slice cz df d0, .slice ba b4 b5, .int .i64 dp, .int .i64 el]) gm) else (
 canStore eu ((blk w.heap.size).add 0) ∧
 thenW (eu.setCell ((blk w.heap.size).add 0) (.int .u32 0)) fun i2 =>
 canStore i2 ((blk w.heap.size).add 1) ∧
 thenW (i2.setCell ((blk w.heap.size).add 1) (.slice none 0 0)) fun gq =>
 canStore gq ((blk w.heap.size).add 2) ∧
 thenW (gq.setCell ((blk w.heap.size).add 2) (.slice none 0 0)) fun gl =>
 canStore gl ((blk w.heap.size).add 3) ∧
 thenW (gl.setCell ((blk w.heap.size).add 3) (.int .i64 0)) fun ii =>
 canStore ii ((blk w.heap.size).add 4) ∧
 thenW (ii.setCell ((blk w.heap.size).add 4) (.int .i64 0)) fun i7 =>
 ∃ (cc : Int) (d4 : Option Addr) (ct : Nat) (d7 : Nat) (bc : Option Addr) (ay : Nat) (bf : Nat) (dl : Int) (em : Int), cellsAt i7 (blk w.heap.size) [.int .u32 cc, .slice d4 ct d7, .slice bc ay bf, .int .i64 dl, .int .i64 em] 0 ∧
 R (.agg #[.int .u32 cc, .slice d4 ct d7, .slice bc ay bf, .int .i64 dl, .int .i64 em]) i7)) else (
 bif decide (ae > a1) then (
 (0 : Int) ≤ ((IntKind.i64.wrap ((IntKind.i64.wrap ((2 : Int) + (IntKind.i64.wrap (Int.tdiv (IntKind.i64.wrap ((a0 : Int) - 2)) 2)))) + (IntKind.i64.wrap (Int.tdiv (IntKind.i64.wrap ((a0 : Int) - 2)) 2)))) : Int) ∧ ((IntKind.i64.wrap ((IntKind.i64.wrap ((2 : Int) + (IntKind.i64.wrap (Int.tdiv (IntKind.i64.wrap ((a0 : Int) - 2)) 2)))) + (IntKind.i64.wrap (Int.tdiv (IntKind.i64.wrap ((a0 : Int) - 2)) 2)))) : Int) ≤ (dx : Int) ∧ (0 : Int) ≤ ((IntKind.i64.wrap ((2 : Int) + (IntKind.i64.wrap (Int.tdiv (IntKind.i64.wrap ((a0 : Int) - 2)) 2)))) : Int) ∧ ((IntKind.i64.wrap ((2 : Int) + (IntKind.i64.wrap (Int.tdiv (IntKind.i64.wrap ((a0 : Int) - 2)) 2)))) : Int) ≤ ((IntKind.i64.wrap ((IntKind.i64.wrap ((2 : Int) + (IntKind.i64.wrap (Int.tdiv (IntKind.i64.wrap ((a0 : Int) - 2)) 2)))) + (IntKind.i64.wrap (Int.tdiv (IntKind.i64.wrap ((a0 : Int) - 2)) 2)))) : Int) ∧
 Calls Try.prog 40 #[.slice (if dx = Int.toNat (IntKind.i64.wrap ((2 : Int) + (IntKind.i64.wrap (Int.tdiv (IntKind.i64.wrap ((a0 : Int) - 2)) 2)))) then eb else Option.map (fun z : Addr => z.add ((Int.toNat (IntKind.i64.wrap ((2 : Int) + (IntKind.i64.wrap (Int.tdiv (IntKind.i64.wrap ((a0 : Int) - 2)) 2))))) * 1)) eb) ((Int.toNat (IntKind.i64.wrap ((IntKind.i64.wrap ((2 : Int) + (IntKind.i64.wrap (Int.tdiv (IntKind.i64.wrap ((a0 : Int) - 2)) 2)))) + (IntKind.i64.wrap (Int.tdiv (IntKind.i64.wrap ((a0 : Int) - 2)) 2))))) - (Int.toNat (IntKind.i64.wrap ((2 : Int) + (IntKind.i64.wrap (Int.tdiv (IntKind.i64.wrap ((a0 : Int) - 2)) 2)))))) (dx - (Int.toNat (IntKind.i64.wrap ((2 : Int) + (IntKind.i64.wrap (Int.tdiv (IntKind.i64.wrap ((a0 : Int) - 2)) 2)))))), .int .u32 ae] ei fun ix ej => ∃ (cn : Option Addr) (bi : Nat) (du : Nat) (eq : Int) (eg : Int), ix = .returned (.tuple #[.slice cn bi du, .int .i64 eq, .int .u32 eg]) ∧
 bif eg == 4294967295 then (
 canStore ej ((blk w.heap.size).add 0) ∧
 thenW (ej.setCell ((blk w.heap.size).add 0) (.int .u32 0)) fun ij =>
 canStore ij ((blk w.heap.size).add 1) ∧
 thenW (ij.setCell ((blk w.heap.size).add 1) (.slice none 0 0)) fun i1 =>
 canStore i1 ((blk w.heap.size).add 2) ∧
 thenW (i1.setCell ((blk w.heap.size).add 2) (.slice none 0 0)) fun gp =>
 canStore gp ((blk w.heap.size).add 3) ∧
 thenW (gp.setCell ((blk w.heap.size).add 3) (.int .i64 0)) fun gz =>
 canStore gz ((blk w.heap.size).add 4) ∧
 thenW (gz.setCell ((blk w.heap.size).add 4) (.int .i64 2)) fun i6 =>
 ∃ (bw : Int) (cu : Option Addr) (d8 : Nat) (cp : Nat) (az : Option Addr) (b1 : Nat) (aw : Nat) (dq : Int) (eh : Int), cellsAt i6 (blk w.heap.size) [.int .u32 bw, .slice cu d8 cp, .slice az b1 aw, .int .i64 dq, .int .i64 eh] 0 ∧
 R (.agg #[.int .u32 bw, .slice cu d8 cp, .slice az b1 aw, .int .i64 dq, .int .i64 eh]) i6) else (
 bif (bi : Int) == 0 then (
 canStore ej ((blk w.heap.size).add 0) ∧
 thenW (ej.setCell ((blk w.heap.size).add 0) (.int .u32 0)) fun gv =>
 canStore gv ((blk w.heap.size).add 1) ∧
 thenW (gv.setCell ((blk w.heap.size).add 1) (.slice none 0 0)) fun gh =>
 canStore gh ((blk w.heap.size).add 2) ∧
 thenW (gh.setCell ((blk w.heap.size).add 2) (.slice none 0 0)) fun i8 =>
 canStore i8 ((blk w.heap.size).add 3) ∧
 thenW (i8.setCell ((blk w.heap.size).add 3) (.int .i64 0)) fun gt =>
 canStore gt ((blk w.heap.size).add 4) ∧
 thenW (gt.setCell ((blk w.heap.size).add 4) (.int .i64 4)) fun gx =>
 ∃ (c4 : Int) (d9 : Option Addr) (d2 : Nat) (da : Nat) (b3 : Option Addr) (b9 : Nat) (bd : Nat) (dr : Int) (ep : Int), cellsAt gx (blk w.heap.size) [.int .u32 c4, .slice d9 d2 da, .slice b3 b9 bd, .int .i64 dr, .int .i64 ep] 0 ∧
 R (.agg #[.int .u32 c4, .slice d9 d2 da, .slice b3 b9 bd, .int .i64 dr, .int .i64 ep]) gx) else (
 thenW (ej.drew) fun gc =>
 cn.elim False fun j4 =>
 0 ≤ (0 : Int) ∧ (0 : Int) < (bi : Int) ∧
 ∃ (gi : Option Addr) (gw : Nat) (ia : Nat), gc.cell? (j4.add (Int.toNat 0 * 1)) = some (.slice gi gw ia) ∧
 (0 : Int) ≤ (1 : Int) ∧ (1 : Int) ≤ (bi : Int) ∧
 canStore gc ((blk w.heap.size).add 0) ∧
 thenW (gc.setCell ((blk w.heap.size).add 0) (.int .u32 ae)) fun ik =>
 canStore ik ((blk w.heap.size).add 1) ∧
 thenW (ik.setCell ((blk w.heap.size).add 1) (.slice gi gw ia)) fun ih =>
 canStore ih ((blk w.heap.size).add 2) ∧
 thenW (ih.setCell ((blk w.heap.size).add 2) (.slice (if du = Int.toNat 1 then cn else Option.map (fun z : Addr => z.add ((Int.toNat 1) * 1)) cn) (bi - (Int.toNat 1)) (du - (Int.toNat 1)))) fun i0 =>
 canStore i0 ((blk w.heap.size).add 3) ∧
 thenW (i0.setCell ((blk w.heap.size).add 3) (.int .i64 (IntKind.i64.wrap ((IntKind.i64.wrap (Int.tdiv (IntKind.i64.wrap ((a0 : Int) - 2)) 2)) - eq)))) fun ig =>
 canStore ig ((blk w.heap.size).add 4) ∧
 thenW (ig.setCell ((blk w.heap.size).add 4) (.int .i64 0)) fun i9 =>
 ∃ (cf : Int) (dh : Option Addr) (di : Nat) (db : Nat) (b6 : Option Addr) (b0 : Nat) (b7 : Nat) (dm : Int) (es : Int), cellsAt i9 (blk w.heap.size) [.int .u32 cf, .slice dh di db, .slice b6 b0 b7, .int .i64 dm, .int .i64 es] 0 ∧
 R (.agg #[.int .u32 cf, .slice dh di db, .slice b6 b0 b7, .int .i64 dm, .int .i64 es]) i9))) else (
 (0 : Int) ≤ ((IntKind.i64.wrap ((2 : Int) + (IntKind.i64.wrap (Int.tdiv (IntKind.i64.wrap ((a0 : Int) - 2)) 2)))) : Int) ∧ ((IntKind.i64.wrap ((2 : Int) + (IntKind.i64.wrap (Int.tdiv (IntKind.i64.wrap ((a0 : Int) - 2)) 2)))) : Int) ≤ (dx : Int) ∧ (0 : Int) ≤ (2 : Int) ∧ (2 : Int) ≤ ((IntKind.i64.wrap ((2 : Int) + (IntKind.i64.wrap (Int.tdiv (IntKind.i64.wrap ((a0 : Int) - 2)) 2)))) : Int) ∧
 Calls Try.prog 40 #[.slice (if dx = Int.toNat 2 then eb else Option.map (fun z : Addr => z.add ((Int.toNat 2) * 1)) eb) ((Int.toNat (IntKind.i64.wrap ((2 : Int) + (IntKind.i64.wrap (Int.tdiv (IntKind.i64.wrap ((a0 : Int) - 2)) 2))))) - (Int.toNat 2)) (dx - (Int.toNat 2)), .int .u32 a1] ei fun it ek => ∃ (co : Option Addr) (bo : Nat) (dt : Nat) (eo : Int) (er : Int), it = .returned (.tuple #[.slice co bo dt, .int .i64 eo, .int .u32 er]) ∧
 bif er == 4294967295 then (
 canStore ek ((blk w.heap.size).add 0) ∧
 thenW (ek.setCell ((blk w.heap.size).add 0) (.int .u32 0)) fun i3 =>
 canStore i3 ((blk w.heap.size).add 1) ∧
 thenW (i3.setCell ((blk w.heap.size).add 1) (.slice none 0 0)) fun gn =>
 canStore gn ((blk w.heap.size).add 2) ∧
 thenW (gn.setCell ((blk w.heap.size).add 2) (.slice none 0 0)) fun gy =>
 canStore gy ((blk w.heap.size).add 3) ∧
 thenW (gy.setCell ((blk w.heap.size).add 3) (.int .i64 0)) fun gj =>
 canStore gj ((blk w.heap.size).add 4) ∧
 thenW (gj.setCell ((blk w.heap.size).add 4) (.int .i64 2)) fun il =>
 ∃ (cm : Int) (d1 : Option Addr) (cs : Nat) (d6 : Nat) (be : Option Addr) (b8 : Nat) (bb : Nat) (d5 : Int) (e0 : Int), cellsAt il (blk w.heap.size) [.int .u32 cm, .slice d1 cs d6, .slice be b8 bb, .int .i64 d5, .int .i64 e0] 0 ∧
 R (.agg #[.int .u32 cm, .slice d1 cs d6, .slice be b8 bb, .int .i64 d5, .int .i64 e0]) il) else (
 bif (bo : Int) == 0 then (
 canStore ek ((blk w.heap.size).add 0) ∧
 thenW (ek.setCell ((blk w.heap.size).add 0) (.int .u32 0)) fun f5 =>
 canStore f5 ((blk w.heap.size).add 1) ∧
 thenW (f5.setCell ((blk w.heap.size).add 1) (.slice none 0 0)) fun ff =>
 canStore ff ((blk w.heap.size).add 2) ∧
 thenW (ff.setCell ((blk w.heap.size).add 2) (.slice none 0 0)) fun g6 =>
 canStore g6 ((blk w.heap.size).add 3) ∧
 thenW (g6.setCell ((blk w.heap.size).add 3) (.int .i64 0)) fun f0 =>
 canStore f0 ((blk w.heap.size).add 4) ∧
 thenW (f0.setCell ((blk w.heap.size).add 4) (.int .i64 4)) fun fi =>
 ∃ (bh : Int) (c6 : Option Addr) (c5 : Nat) (cb : Nat) (al : Option Addr) (ag : Nat) (a7 : Nat) (dg : Int) (e3 : Int), cellsAt fi (blk w.heap.size) [.int .u32 bh, .slice c6 c5 cb, .slice al ag a7, .int .i64 dg, .int .i64 e3] 0 ∧
 R (.agg #[.int .u32 bh, .slice c6 c5 cb, .slice al ag a7, .int .i64 dg, .int .i64 e3]) fi) else (
 thenW (ek.drew) fun ec =>
 co.elim False fun ir =>
 0 ≤ (0 : Int) ∧ (0 : Int) < (bo : Int) ∧
 ∃ (fx : Option Addr) (fb : Nat) (fa : Nat), ec.cell? (ir.add (Int.toNat 0 * 1)) = some (.slice fx fb fa) ∧
 (0 : Int) ≤ (1 : Int) ∧ (1 : Int) ≤ (bo : Int) ∧
 canStore ec ((blk w.heap.size).add 0) ∧
 thenW (ec.setCell ((blk w.heap.size).add 0) (.int .u32 a1)) fun f1 =>
 canStore f1 ((blk w.heap.size).add 1) ∧
 thenW (f1.setCell ((blk w.heap.size).add 1) (.slice fx fb fa)) fun fp =>
 canStore fp ((blk w.heap.size).add 2) ∧
 thenW (fp.setCell ((blk w.heap.size).add 2) (.slice (if dt = Int.toNat 1 then co else Option.map (fun z : Addr => z.add ((Int.toNat 1) * 1)) co) (bo - (Int.toNat 1)) (dt - (Int.toNat 1)))) fun g5 =>
 canStore g5 ((blk w.heap.size).add 3) ∧
 thenW (g5.setCell ((blk w.heap.size).add 3) (.int .i64 (IntKind.i64.wrap ((IntKind.i64.wrap (Int.tdiv (IntKind.i64.wrap ((a0 : Int) - 2)) 2)) - eo)))) fun fg =>
 canStore fg ((blk w.heap.size).add 4) ∧
 thenW (fg.setCell ((blk w.heap.size).add 4) (.int .i64 0)) fun fm =>
 ∃ (bq : Int) (cl : Option Addr) (bs : Nat) (ci : Nat) (ad : Option Addr) (ai : Nat) (au : Nat) (dd : Int) (ea : Int), cellsAt fm (blk w.heap.size) [.int .u32 bq, .slice cl bs ci, .slice ad ai au, .int .i64 dd, .int .i64 ea] 0 ∧
 R (.agg #[.int .u32 bq, .slice cl bs ci, .slice ad ai au, .int .i64 dd, .int .i64 ea]) fm))))) else (
 bif decide (ae > a1) then (
 (0 : Int) ≤ ((IntKind.i64.wrap ((IntKind.i64.wrap ((2 : Int) + (IntKind.i64.wrap (Int.tdiv (IntKind.i64.wrap ((a0 : Int) - 2)) 2)))) + (IntKind.i64.wrap (Int.tdiv (IntKind.i64.wrap ((a0 : Int) - 2)) 2)))) : Int) ∧ ((IntKind.i64.wrap ((IntKind.i64.wrap ((2 : Int) + (IntKind.i64.wrap (Int.tdiv (IntKind.i64.wrap ((a0 : Int) - 2)) 2)))) + (IntKind.i64.wrap (Int.tdiv (IntKind.i64.wrap ((a0 : Int) - 2)) 2)))) : Int) ≤ (dx : Int) ∧ (0 : Int) ≤ ((IntKind.i64.wrap ((2 : Int) + (IntKind.i64.wrap (Int.tdiv (IntKind.i64.wrap ((a0 : Int) - 2)) 2)))) : Int) ∧ ((IntKind.i64.wrap ((2 : Int) + (IntKind.i64.wrap (Int.tdiv (IntKind.i64.wrap ((a0 : Int) - 2)) 2)))) : Int) ≤ ((IntKind.i64.wrap ((IntKind.i64.wrap ((2 : Int) + (IntKind.i64.wrap (Int.tdiv (IntKind.i64.wrap ((a0 : Int) - 2)) 2)))) + (IntKind.i64.wrap (Int.tdiv (IntKind.i64.wrap ((a0 : Int) - 2)) 2)))) : Int) ∧
 Calls Try.prog 40 #[.slice (if dx = Int.toNat (IntKind.i64.wrap ((2 : Int) + (IntKind.i64.wrap (Int.tdiv (IntKind.i64.wrap ((a0 : Int) - 2)) 2)))) then eb else Option.map (fun z : Addr => z.add ((Int.toNat (IntKind.i64.wrap ((2 : Int) + (IntKind.i64.wrap (Int.tdiv (IntKind.i64.wrap ((a0 : Int) - 2)) 2))))) * 1)) eb) ((Int.toNat (IntKind.i64.wrap ((IntKind.i64.wrap ((2 : Int) + (IntKind.i64.wrap (Int.tdiv (IntKind.i64.wrap ((a0 : Int) - 2)) 2)))) + (IntKind.i64.wrap (Int.tdiv (IntKind.i64.wrap ((a0 : Int) - 2)) 2))))) - (Int.toNat (IntKind.i64.wrap ((2 : Int) + (IntKind.i64.wrap (Int.tdiv (IntKind.i64.wrap ((a0 : Int) - 2)) 2)))))) (dx - (Int.toNat (IntKind.i64.wrap ((2 : Int) + (IntKind.i64.wrap (Int.tdiv (IntKind.i64.wrap ((a0 : Int) - 2)) 2)))))), .int .u32 ae] ei fun gu dv => ∃ (bj : Option Addr) (a3 : Nat) (cw : Nat) (e1 : Int) (e8 : Int), gu = .returned (.tuple #[.slice bj a3 cw, .int .i64 e1, .int .u32 e8]) ∧
 bif e8 == 4294967295 then (
 canStore dv ((blk w.heap.size).add 0) ∧
 thenW (dv.setCell ((blk w.heap.size).add 0) (.int .u32 0)) fun ez =>
 canStore ez ((blk w.heap.size).add 1) ∧
 thenW (ez.setCell ((blk w.heap.size).add 1) (.slice none 0 0)) fun fl =>
 canStore fl ((blk w.heap.size).add 2) ∧
 thenW (fl.setCell ((blk w.heap.size).add 2) (.slice none 0 0)) fun fe =>
 canStore fe ((blk w.heap.size).add 3) ∧
 thenW (fe.setCell ((blk w.heap.size).add 3) (.int .i64 0)) fun ey =>
 canStore ey ((blk w.heap.size).add 4) ∧
 thenW (ey.setCell ((blk w.heap.size).add 4) (.int .i64 2)) fun f3 =>
 ∃ (bp : Int) (bu : Option Addr) (ca : Nat) (bt : Nat) (ak : Option Addr) (ac : Nat) (a4 : Nat) (cx : Int) (e9 : Int), cellsAt f3 (blk w.heap.size) [.int .u32 bp, .slice bu ca bt, .slice ak ac a4, .int .i64 cx, .int .i64 e9] 0 ∧
 R (.agg #[.int .u32 bp, .slice bu ca bt, .slice ak ac a4, .int .i64 cx, .int .i64 e9]) f3) else (
 bif (a3 : Int) == 0 then (
 canStore dv ((blk w.heap.size).add 0) ∧
 thenW (dv.setCell ((blk w.heap.size).add 0) (.int .u32 0)) fun g1 =>
 canStore g1 ((blk w.heap.size).add 1) ∧
 thenW (g1.setCell ((blk w.heap.size).add 1) (.slice none 0 0)) fun ga =>
 canStore ga ((blk w.heap.size).add 2) ∧
 thenW (ga.setCell ((blk w.heap.size).add 2) (.slice none 0 0)) fun ft =>
 canStore ft ((blk w.heap.size).add 3) ∧
 thenW (ft.setCell ((blk w.heap.size).add 3) (.int .i64 0)) fun g8 =>
 canStore g8 ((blk w.heap.size).add 4) ∧
 thenW (g8.setCell ((blk w.heap.size).add 4) (.int .i64 4)) fun g3 =>
 ∃ (bl : Int) (ce : Option Addr) (c7 : Nat) (c2 : Nat) (a9 : Option Addr) (aj : Nat) (a5 : Nat) (cq : Int) (e5 : Int), cellsAt g3 (blk w.heap.size) [.int .u32 bl, .slice ce c7 c2, .slice a9 aj a5, .int .i64 cq, .int .i64 e5] 0 ∧
 R (.agg #[.int .u32 bl, .slice ce c7 c2, .slice a9 aj a5, .int .i64 cq, .int .i64 e5]) g3) else (
 thenW (dv.drew) fun ef =>
 bj.elim False fun iu =>
 0 ≤ (0 : Int) ∧ (0 : Int) < (a3 : Int) ∧
 ∃ (f6 : Option Addr) (fh : Nat) (f9 : Nat), ef.cell? (iu.add (Int.toNat 0 * 1)) = some (.slice f6 fh f9) ∧
 (0 : Int) ≤ (1 : Int) ∧ (1 : Int) ≤ (a3 : Int) ∧
 canStore ef ((blk w.heap.size).add 0) ∧
 thenW (ef.setCell ((blk w.heap.size).add 0) (.int .u32 ae)) fun fj =>
 canStore fj ((blk w.heap.size).add 1) ∧
 thenW (fj.setCell ((blk w.heap.size).add 1) (.slice f6 fh f9)) fun fy =>
 canStore fy ((blk w.heap.size).add 2) ∧
 thenW (fy.setCell ((blk w.heap.size).add 2) (.slice (if cw = Int.toNat 1 then bj else Option.map (fun z : Addr => z.add ((Int.toNat 1) * 1)) bj) (a3 - (Int.toNat 1)) (cw - (Int.toNat 1)))) fun fd =>
 canStore fd ((blk w.heap.size).add 3) ∧
 thenW (fd.setCell ((blk w.heap.size).add 3) (.int .i64 (IntKind.i64.wrap ((IntKind.i64.wrap (Int.tdiv (IntKind.i64.wrap ((a0 : Int) - 2)) 2)) - e1)))) fun g0 =>
 canStore g0 ((blk w.heap.size).add 4) ∧
 thenW (g0.setCell ((blk w.heap.size).add 4) (.int .i64 0)) fun g7 =>
 ∃ (bm : Int) (c9 : Option Addr) (cd : Nat) (c1 : Nat) (aa : Option Addr) (an : Nat) (ap : Nat) (cv : Int) (e6 : Int), cellsAt g7 (blk w.heap.size) [.int .u32 bm, .slice c9 cd c1, .slice aa an ap, .int .i64 cv, .int .i64 e6] 0 ∧
 R (.agg #[.int .u32 bm, .slice c9 cd c1, .slice aa an ap, .int .i64 cv, .int .i64 e6]) g7))) else (
 (0 : Int) ≤ ((IntKind.i64.wrap ((2 : Int) + (IntKind.i64.wrap (Int.tdiv (IntKind.i64.wrap ((a0 : Int) - 2)) 2)))) : Int) ∧ ((IntKind.i64.wrap ((2 : Int) + (IntKind.i64.wrap (Int.tdiv (IntKind.i64.wrap ((a0 : Int) - 2)) 2)))) : Int) ≤ (dx : Int) ∧ (0 : Int) ≤ (2 : Int) ∧ (2 : Int) ≤ ((IntKind.i64.wrap ((2 : Int) + (IntKind.i64.wrap (Int.tdiv (IntKind.i64.wrap ((a0 : Int) - 2)) 2)))) : Int) ∧
 Calls Try.prog 40 #[.slice (if dx = Int.toNat 2 then eb else Option.map (fun z : Addr => z.add ((Int.toNat 2) * 1)) eb) ((Int.toNat (IntKind.i64.wrap ((2 : Int) + (IntKind.i64.wrap (Int.tdiv (IntKind.i64.wrap ((a0 : Int) - 2)) 2))))) - (Int.toNat 2)) (dx - (Int.toNat 2)), .int .u32 a1] ei fun gk dw => ∃ (bn : Option Addr) (af : Nat) (d3 : Nat) (dy : Int) (e2 : Int), gk = .returned (.tuple #[.slice bn af d3, .int .i64 dy, .int .u32 e2]) ∧
 bif e2 == 4294967295 then (
 canStore dw ((blk w.heap.size).add 0) ∧
 thenW (dw.setCell ((blk w.heap.size).add 0) (.int .u32 0)) fun fz =>
 canStore fz ((blk w.heap.size).add 1) ∧
 thenW (fz.setCell ((blk w.heap.size).add 1) (.slice none 0 0)) fun fc =>
 canStore fc ((blk w.heap.size).add 2) ∧
 thenW (fc.setCell ((blk w.heap.size).add 2) (.slice none 0 0)) fun fs =>
 canStore fs ((blk w.heap.size).add 3) ∧
 thenW (fs.setCell ((blk w.heap.size).add 3) (.int .i64 0)) fun g9 =>
 canStore g9 ((blk w.heap.size).add 4) ∧
 thenW (g9.setCell ((blk w.heap.size).add 4) (.int .i64 2)) fun f4 =>
 ∃ (bk : Int) (c8 : Option Addr) (bv : Nat) (ck : Nat) (a2 : Option Addr) (a6 : Nat) (ah : Nat) (cr : Int) (e7 : Int), cellsAt f4 (blk w.heap.size) [.int .u32 bk, .slice c8 bv ck, .slice a2 a6 ah, .int .i64 cr, .int .i64 e7] 0 ∧
 R (.agg #[.int .u32 bk, .slice c8 bv ck, .slice a2 a6 ah, .int .i64 cr, .int .i64 e7]) f4) else (
 bif (af : Int) == 0 then (
 canStore dw ((blk w.heap.size).add 0) ∧
 thenW (dw.setCell ((blk w.heap.size).add 0) (.int .u32 0)) fun fk =>
 canStore fk ((blk w.heap.size).add 1) ∧
 thenW (fk.setCell ((blk w.heap.size).add 1) (.slice none 0 0)) fun fr =>
 canStore fr ((blk w.heap.size).add 2) ∧
 thenW (fr.setCell ((blk w.heap.size).add 2) (.slice none 0 0)) fun g2 =>
 canStore g2 ((blk w.heap.size).add 3) ∧
 thenW (g2.setCell ((blk w.heap.size).add 3) (.int .i64 0)) fun ex =>
 canStore ex ((blk w.heap.size).add 4) ∧
 thenW (ex.setCell ((blk w.heap.size).add 4) (.int .i64 4)) fun fq =>
 ∃ (br : Int) (bx : Option Addr) (c3 : Nat) (cj : Nat) (ar : Option Addr) (a8 : Nat) (am : Nat) (cy : Int) (e4 : Int), cellsAt fq (blk w.heap.size) [.int .u32 br, .slice bx c3 cj, .slice ar a8 am, .int .i64 cy, .int .i64 e4] 0 ∧
 R (.agg #[.int .u32 br, .slice bx c3 cj, .slice ar a8 am, .int .i64 cy, .int .i64 e4]) fq) else (
 thenW (dw.drew) fun ee =>
 bn.elim False fun iq =>
 0 ≤ (0 : Int) ∧ (0 : Int) < (af : Int) ∧
 ∃ (g4 : Option Addr) (f8 : Nat) (fu : Nat), ee.cell? (iq.add (Int.toNat 0 * 1)) = some (.slice g4 f8 fu) ∧
 (0 : Int) ≤ (1 : Int) ∧ (1 : Int) ≤ (af : Int) ∧
 canStore ee ((blk w.heap.size).add 0) ∧
 thenW (ee.setCell ((blk w.heap.size).add 0) (.int .u32 a1)) fun fw =>
 canStore fw ((blk w.heap.size).add 1) ∧
 thenW (fw.setCell ((blk w.heap.size).add 1) (.slice g4 f8 fu)) fun fo =>
 canStore fo ((blk w.heap.size).add 2) ∧
 thenW (fo.setCell ((blk w.heap.size).add 2) (.slice (if d3 = Int.toNat 1 then bn else Option.map (fun z : Addr => z.add ((Int.toNat 1) * 1)) bn) (af - (Int.toNat 1)) (d3 - (Int.toNat 1)))) fun fv =>
 canStore fv ((blk w.heap.size).add 3) ∧
 thenW (fv.setCell ((blk w.heap.size).add 3) (.int .i64 (IntKind.i64.wrap ((IntKind.i64.wrap (Int.tdiv (IntKind.i64.wrap ((a0 : Int) - 2)) 2)) - dy)))) fun f7 =>
 canStore f7 ((blk w.heap.size).add 4) ∧
 thenW (f7.setCell ((blk w.heap.size).add 4) (.int .i64 0)) fun f2 =>
 ∃ (bg : Int) (cg : Option Addr) (c0 : Nat) (ch : Nat) (ab : Option Addr) (ao : Nat) (aq : Nat) (dc : Int) (dz : Int), cellsAt f2 (blk w.heap.size) [.int .u32 bg, .slice cg c0 ch, .slice ab ao aq, .int .i64 dc, .int .i64 dz] 0 ∧
 R (.agg #[.int .u32 bg, .slice cg c0 ch, .slice ab ao aq, .int .i64 dc, .int .i64 dz]) f2)))))

theorem cachetteref11_Of.eq (l1a : Option Addr) (l1n : Nat) (l1c : Nat) (R : Value → World → Prop) (w : World) : mfunc Try.prog [] 12 [.slice l1a l1n l1c] R w = cachetteref11_Of.M l1a l1n l1c R w := by kernel_rfl
theorem cachetteref11_Of.ok (a2 : Option Addr) (a1 : Nat) (a0 : Nat) {R : Value → World → Prop} {w : World} (h : cachetteref11_Of.M a2 a1 a0 R w) : Calls Try.prog 12 #[.slice a2 a1 a0] w fun e w' => ∃ v, e = .returned v ∧ R v w' :=
  mfunc_ok follows (H := []) (args := [.slice a2 a1 a0]) (by rw [cachetteref11_Of.eq]; exact h)

def cachetteref11_Of.N (bj : Option Addr) (a0 : Nat) (ao : Nat) (R : Value → World → Prop) (w : World) : Prop :=
 ((a0 : Int) < 6 →
 ∀ (cc : World), Ext no w cc →
 R (.agg #[.int .u32 0, .slice none 0 0, .slice none 0 0, .int .i64 0, .int .i64 1]) cc) ∧
 ((6 : Int) ≤ (a0 : Int) →
 ∃ c5 : Addr, bj = some c5 ∧
 (0 : Int) < (a0 : Int) ∧
 ∃ (c1 : Option Addr) (bo : Nat) (c3 : Nat), w.cell? (c5.add (Int.toNat 0 * 1)) = some (.slice c1 bo c3) ∧
 (1 : Int) < (a0 : Int) ∧
 ∃ (be : Option Addr) (bg : Nat) (bi : Nat), w.cell? (c5.add (Int.toNat 1 * 1)) = some (.slice be bg bi) ∧
 ∀ (b0 : World) (ab : Nat), Ext no w b0 → Priv w b0 [ab] →
 Calls Try.prog 39 #[.slice c1 bo c3, .int .i64 0] b0 fun c6 ax => ∃ (a1 : Int), c6 = .returned (.int .u32 a1) ∧
 Keep [ab] b0 ax ∧
 ax.cell? (c5.add (Int.toNat 1 * 1)) = some (.slice be bg bi) ∧
 Calls Try.prog 39 #[.slice be bg bi, .int .i64 1] ax fun ca aa => ∃ (a2 : Int), ca = .returned (.int .u32 a2) ∧
 Keep [ab] ax aa ∧
 (-9223372036854775808 : Int) ≤ ((a0 : Int) - 2) ∧ ((a0 : Int) - 2) < 9223372036854775808 ∧
 (a1 = 0 →
 (a2 = 0 →
 (-9223372036854775808 : Int) ≤ ((2 : Int) + (IntKind.i64.wrap (Int.tdiv ((a0 : Int) - 2) 2))) ∧ ((2 : Int) + (IntKind.i64.wrap (Int.tdiv ((a0 : Int) - 2) 2))) < 9223372036854775808 ∧
 (0 : Int) ≤ (((2 : Int) + (IntKind.i64.wrap (Int.tdiv ((a0 : Int) - 2) 2))) : Int) ∧ (((2 : Int) + (IntKind.i64.wrap (Int.tdiv ((a0 : Int) - 2) 2))) : Int) ≤ (ao : Int) ∧ (2 : Int) ≤ (((2 : Int) + (IntKind.i64.wrap (Int.tdiv ((a0 : Int) - 2) 2))) : Int) ∧ 
 Calls Try.prog 40 #[.slice (cutA bj ao 2 1) ((Int.toNat ((2 : Int) + (IntKind.i64.wrap (Int.tdiv ((a0 : Int) - 2) 2)))) - 2) (ao - 2), .int .u32 1] aa fun cb bf => ∃ (az : Option Addr) (b1 : Nat) (ay : Nat) (bh : Int) (ar : Int), cb = .returned (.tuple #[.slice az b1 ay, .int .i64 bh, .int .u32 ar]) ∧
 Keep [ab] aa bf ∧
 (ar = 4294967295 →
 ∀ (bx : World), Ext (fun b => b = ab) bf bx →
 R (.agg #[.int .u32 0, .slice none 0 0, .slice none 0 0, .int .i64 0, .int .i64 2]) bx) ∧
 (ar ≠ 4294967295 →
 ∀ (bm : World), Ext (fun b => b = ab) bf bm →
 R (.agg #[.int .u32 0, .slice none 0 0, .slice none 0 0, .int .i64 0, .int .i64 0]) bm)) ∧
 (a2 ≠ 0 →
 (a2 > a1 →
 (-9223372036854775808 : Int) ≤ ((2 : Int) + (IntKind.i64.wrap (Int.tdiv ((a0 : Int) - 2) 2))) ∧ ((2 : Int) + (IntKind.i64.wrap (Int.tdiv ((a0 : Int) - 2) 2))) < 9223372036854775808 ∧
 (-9223372036854775808 : Int) ≤ (((2 : Int) + (IntKind.i64.wrap (Int.tdiv ((a0 : Int) - 2) 2))) + (IntKind.i64.wrap (Int.tdiv ((a0 : Int) - 2) 2))) ∧ (((2 : Int) + (IntKind.i64.wrap (Int.tdiv ((a0 : Int) - 2) 2))) + (IntKind.i64.wrap (Int.tdiv ((a0 : Int) - 2) 2))) < 9223372036854775808 ∧
 (0 : Int) ≤ ((((2 : Int) + (IntKind.i64.wrap (Int.tdiv ((a0 : Int) - 2) 2))) + (IntKind.i64.wrap (Int.tdiv ((a0 : Int) - 2) 2))) : Int) ∧ ((((2 : Int) + (IntKind.i64.wrap (Int.tdiv ((a0 : Int) - 2) 2))) + (IntKind.i64.wrap (Int.tdiv ((a0 : Int) - 2) 2))) : Int) ≤ (ao : Int) ∧ (0 : Int) ≤ (((2 : Int) + (IntKind.i64.wrap (Int.tdiv ((a0 : Int) - 2) 2))) : Int) ∧ (((2 : Int) + (IntKind.i64.wrap (Int.tdiv ((a0 : Int) - 2) 2))) : Int) ≤ ((((2 : Int) + (IntKind.i64.wrap (Int.tdiv ((a0 : Int) - 2) 2))) + (IntKind.i64.wrap (Int.tdiv ((a0 : Int) - 2) 2))) : Int) ∧ 
 Calls Try.prog 40 #[.slice (cutA bj ao (Int.toNat ((2 : Int) + (IntKind.i64.wrap (Int.tdiv ((a0 : Int) - 2) 2)))) 1) ((Int.toNat (((2 : Int) + (IntKind.i64.wrap (Int.tdiv ((a0 : Int) - 2) 2))) + (IntKind.i64.wrap (Int.tdiv ((a0 : Int) - 2) 2)))) - (Int.toNat ((2 : Int) + (IntKind.i64.wrap (Int.tdiv ((a0 : Int) - 2) 2))))) (ao - (Int.toNat ((2 : Int) + (IntKind.i64.wrap (Int.tdiv ((a0 : Int) - 2) 2))))), .int .u32 a2] aa fun c8 aw => ∃ (af : Option Addr) (a5 : Nat) (ah : Nat) (ai : Int) (ap : Int), c8 = .returned (.tuple #[.slice af a5 ah, .int .i64 ai, .int .u32 ap]) ∧
 Keep [ab] aa aw ∧
 (ap = 4294967295 →
 ∀ (br : World), Ext (fun b => b = ab) aw br →
 R (.agg #[.int .u32 0, .slice none 0 0, .slice none 0 0, .int .i64 0, .int .i64 2]) br) ∧
 (ap ≠ 4294967295 →
 ((a5 : Int) = 0 →
 ∀ (bs : World), Ext (fun b => b = ab) aw bs →
 R (.agg #[.int .u32 0, .slice none 0 0, .slice none 0 0, .int .i64 0, .int .i64 4]) bs) ∧
 ((a5 : Int) ≠ 0 →
 ∃ ce : Addr, af = some ce ∧
 (0 : Int) < (a5 : Int) ∧
 ∃ (bu : Option Addr) (c0 : Nat) (bz : Nat), aw.cell? (ce.add (Int.toNat 0 * 1)) = some (.slice bu c0 bz) ∧
 (1 : Int) ≤ (a5 : Int) ∧ 
 (-9223372036854775808 : Int) ≤ ((IntKind.i64.wrap (Int.tdiv ((a0 : Int) - 2) 2)) - ai) ∧ ((IntKind.i64.wrap (Int.tdiv ((a0 : Int) - 2) 2)) - ai) < 9223372036854775808 ∧
 ∀ (bp : World), Ext (fun b => b = ab) aw bp →
 R (.agg #[.int .u32 a2, .slice bu c0 bz, .slice (cutA af ah 1 1) (a5 - 1) (ah - 1), .int .i64 ((IntKind.i64.wrap (Int.tdiv ((a0 : Int) - 2) 2)) - ai), .int .i64 0]) bp))) ∧
 (a2 ≤ a1 →
 (-9223372036854775808 : Int) ≤ ((2 : Int) + (IntKind.i64.wrap (Int.tdiv ((a0 : Int) - 2) 2))) ∧ ((2 : Int) + (IntKind.i64.wrap (Int.tdiv ((a0 : Int) - 2) 2))) < 9223372036854775808 ∧
 (0 : Int) ≤ (((2 : Int) + (IntKind.i64.wrap (Int.tdiv ((a0 : Int) - 2) 2))) : Int) ∧ (((2 : Int) + (IntKind.i64.wrap (Int.tdiv ((a0 : Int) - 2) 2))) : Int) ≤ (ao : Int) ∧ (2 : Int) ≤ (((2 : Int) + (IntKind.i64.wrap (Int.tdiv ((a0 : Int) - 2) 2))) : Int) ∧ 
 Calls Try.prog 40 #[.slice (cutA bj ao 2 1) ((Int.toNat ((2 : Int) + (IntKind.i64.wrap (Int.tdiv ((a0 : Int) - 2) 2)))) - 2) (ao - 2), .int .u32 a1] aa fun c7 av => ∃ (ak : Option Addr) (a4 : Nat) (al : Nat) (ag : Int) (au : Int), c7 = .returned (.tuple #[.slice ak a4 al, .int .i64 ag, .int .u32 au]) ∧
 Keep [ab] aa av ∧
 (au = 4294967295 →
 ∀ (bt : World), Ext (fun b => b = ab) av bt →
 R (.agg #[.int .u32 0, .slice none 0 0, .slice none 0 0, .int .i64 0, .int .i64 2]) bt) ∧
 (au ≠ 4294967295 →
 ((a4 : Int) = 0 →
 ∀ (bv : World), Ext (fun b => b = ab) av bv →
 R (.agg #[.int .u32 0, .slice none 0 0, .slice none 0 0, .int .i64 0, .int .i64 4]) bv) ∧
 ((a4 : Int) ≠ 0 →
 ∃ cd : Addr, ak = some cd ∧
 (0 : Int) < (a4 : Int) ∧
 ∃ (c4 : Option Addr) (bn : Nat) (bl : Nat), av.cell? (cd.add (Int.toNat 0 * 1)) = some (.slice c4 bn bl) ∧
 (1 : Int) ≤ (a4 : Int) ∧ 
 (-9223372036854775808 : Int) ≤ ((IntKind.i64.wrap (Int.tdiv ((a0 : Int) - 2) 2)) - ag) ∧ ((IntKind.i64.wrap (Int.tdiv ((a0 : Int) - 2) 2)) - ag) < 9223372036854775808 ∧
 ∀ (bq : World), Ext (fun b => b = ab) av bq →
 R (.agg #[.int .u32 a1, .slice c4 bn bl, .slice (cutA ak al 1 1) (a4 - 1) (al - 1), .int .i64 ((IntKind.i64.wrap (Int.tdiv ((a0 : Int) - 2) 2)) - ag), .int .i64 0]) bq))))) ∧
 (a1 ≠ 0 →
 (a2 > a1 →
 (-9223372036854775808 : Int) ≤ ((2 : Int) + (IntKind.i64.wrap (Int.tdiv ((a0 : Int) - 2) 2))) ∧ ((2 : Int) + (IntKind.i64.wrap (Int.tdiv ((a0 : Int) - 2) 2))) < 9223372036854775808 ∧
 (-9223372036854775808 : Int) ≤ (((2 : Int) + (IntKind.i64.wrap (Int.tdiv ((a0 : Int) - 2) 2))) + (IntKind.i64.wrap (Int.tdiv ((a0 : Int) - 2) 2))) ∧ (((2 : Int) + (IntKind.i64.wrap (Int.tdiv ((a0 : Int) - 2) 2))) + (IntKind.i64.wrap (Int.tdiv ((a0 : Int) - 2) 2))) < 9223372036854775808 ∧
 (0 : Int) ≤ ((((2 : Int) + (IntKind.i64.wrap (Int.tdiv ((a0 : Int) - 2) 2))) + (IntKind.i64.wrap (Int.tdiv ((a0 : Int) - 2) 2))) : Int) ∧ ((((2 : Int) + (IntKind.i64.wrap (Int.tdiv ((a0 : Int) - 2) 2))) + (IntKind.i64.wrap (Int.tdiv ((a0 : Int) - 2) 2))) : Int) ≤ (ao : Int) ∧ (0 : Int) ≤ (((2 : Int) + (IntKind.i64.wrap (Int.tdiv ((a0 : Int) - 2) 2))) : Int) ∧ (((2 : Int) + (IntKind.i64.wrap (Int.tdiv ((a0 : Int) - 2) 2))) : Int) ≤ ((((2 : Int) + (IntKind.i64.wrap (Int.tdiv ((a0 : Int) - 2) 2))) + (IntKind.i64.wrap (Int.tdiv ((a0 : Int) - 2) 2))) : Int) ∧ 
 Calls Try.prog 40 #[.slice (cutA bj ao (Int.toNat ((2 : Int) + (IntKind.i64.wrap (Int.tdiv ((a0 : Int) - 2) 2)))) 1) ((Int.toNat (((2 : Int) + (IntKind.i64.wrap (Int.tdiv ((a0 : Int) - 2) 2))) + (IntKind.i64.wrap (Int.tdiv ((a0 : Int) - 2) 2)))) - (Int.toNat ((2 : Int) + (IntKind.i64.wrap (Int.tdiv ((a0 : Int) - 2) 2))))) (ao - (Int.toNat ((2 : Int) + (IntKind.i64.wrap (Int.tdiv ((a0 : Int) - 2) 2))))), .int .u32 a2] aa fun c9 am => ∃ (ae : Option Addr) (a6 : Nat) (ac : Nat) (aj : Int) (aq : Int), c9 = .returned (.tuple #[.slice ae a6 ac, .int .i64 aj, .int .u32 aq]) ∧
 Keep [ab] aa am ∧
 (aq = 4294967295 →
 ∀ (b8 : World), Ext (fun b => b = ab) am b8 →
 R (.agg #[.int .u32 0, .slice none 0 0, .slice none 0 0, .int .i64 0, .int .i64 2]) b8) ∧
 (aq ≠ 4294967295 →
 ((a6 : Int) = 0 →
 ∀ (b2 : World), Ext (fun b => b = ab) am b2 →
 R (.agg #[.int .u32 0, .slice none 0 0, .slice none 0 0, .int .i64 0, .int .i64 4]) b2) ∧
 ((a6 : Int) ≠ 0 →
 ∃ bk : Addr, ae = some bk ∧
 (0 : Int) < (a6 : Int) ∧
 ∃ (b6 : Option Addr) (bb : Nat) (b4 : Nat), am.cell? (bk.add (Int.toNat 0 * 1)) = some (.slice b6 bb b4) ∧
 (1 : Int) ≤ (a6 : Int) ∧ 
 (-9223372036854775808 : Int) ≤ ((IntKind.i64.wrap (Int.tdiv ((a0 : Int) - 2) 2)) - aj) ∧ ((IntKind.i64.wrap (Int.tdiv ((a0 : Int) - 2) 2)) - aj) < 9223372036854775808 ∧
 ∀ (b3 : World), Ext (fun b => b = ab) am b3 →
 R (.agg #[.int .u32 a2, .slice b6 bb b4, .slice (cutA ae ac 1 1) (a6 - 1) (ac - 1), .int .i64 ((IntKind.i64.wrap (Int.tdiv ((a0 : Int) - 2) 2)) - aj), .int .i64 0]) b3))) ∧
 (a2 ≤ a1 →
 (-9223372036854775808 : Int) ≤ ((2 : Int) + (IntKind.i64.wrap (Int.tdiv ((a0 : Int) - 2) 2))) ∧ ((2 : Int) + (IntKind.i64.wrap (Int.tdiv ((a0 : Int) - 2) 2))) < 9223372036854775808 ∧
 (0 : Int) ≤ (((2 : Int) + (IntKind.i64.wrap (Int.tdiv ((a0 : Int) - 2) 2))) : Int) ∧ (((2 : Int) + (IntKind.i64.wrap (Int.tdiv ((a0 : Int) - 2) 2))) : Int) ≤ (ao : Int) ∧ (2 : Int) ≤ (((2 : Int) + (IntKind.i64.wrap (Int.tdiv ((a0 : Int) - 2) 2))) : Int) ∧ 
 Calls Try.prog 40 #[.slice (cutA bj ao 2 1) ((Int.toNat ((2 : Int) + (IntKind.i64.wrap (Int.tdiv ((a0 : Int) - 2) 2)))) - 2) (ao - 2), .int .u32 a1] aa fun c2 an => ∃ (a9 : Option Addr) (a3 : Nat) (a8 : Nat) (a7 : Int) (ad : Int), c2 = .returned (.tuple #[.slice a9 a3 a8, .int .i64 a7, .int .u32 ad]) ∧
 Keep [ab] aa an ∧
 (ad = 4294967295 →
 ∀ (b7 : World), Ext (fun b => b = ab) an b7 →
 R (.agg #[.int .u32 0, .slice none 0 0, .slice none 0 0, .int .i64 0, .int .i64 2]) b7) ∧
 (ad ≠ 4294967295 →
 ((a3 : Int) = 0 →
 ∀ (bc : World), Ext (fun b => b = ab) an bc →
 R (.agg #[.int .u32 0, .slice none 0 0, .slice none 0 0, .int .i64 0, .int .i64 4]) bc) ∧
 ((a3 : Int) ≠ 0 →
 ∃ bw : Addr, a9 = some bw ∧
 (0 : Int) < (a3 : Int) ∧
 ∃ (b5 : Option Addr) (bd : Nat) (ba : Nat), an.cell? (bw.add (Int.toNat 0 * 1)) = some (.slice b5 bd ba) ∧
 (1 : Int) ≤ (a3 : Int) ∧ 
 (-9223372036854775808 : Int) ≤ ((IntKind.i64.wrap (Int.tdiv ((a0 : Int) - 2) 2)) - a7) ∧ ((IntKind.i64.wrap (Int.tdiv ((a0 : Int) - 2) 2)) - a7) < 9223372036854775808 ∧
 ∀ (b9 : World), Ext (fun b => b = ab) an b9 →
 R (.agg #[.int .u32 a1, .slice b5 bd ba, .slice (cutA a9 a8 1 1) (a3 - 1) (a8 - 1), .int .i64 ((IntKind.i64.wrap (Int.tdiv ((a0 : Int) - 2) 2)) - a7), .int .i64 0]) b9)))))

theorem cachetteref11_Of.up (ke : Option Addr) (az : Nat) (k5 : Nat) {R : Value → World → Prop} {w : World} (h : cachetteref11_Of.N ke az k5 R w) : cachetteref11_Of.M ke az k5 R w := by
  unfold cachetteref11_Of.M
  unfold cachetteref11_Of.N at h
  refine thenW_in fun l6 e2 => ?_
  have a0 := Blk.of_new e2
  have bv := ((Ext.refl no w)).size
  have jg := (Ext.refl no w).x_alloc e2
  refine bif_of (fun c3 => ?_) (fun c3 => ?_)
  · have h := h.1 (of_decide_eq_true c3)
    refine ⟨a0.cani 0 rfl rfl, thenW_in fun l3 e4 => ?_⟩
    have kq := jg.x_set (q := w.heap.size) (i := 0) rfl (.inr bv) e4
    have a0 : Blk l3 w.heap.size 41 [.int .u32 0, .slice none 0 0, .slice none 0 0, .int .i64 0, .int .i64 0] := a0.seti 0 rfl e4
    refine ⟨a0.cani 1 rfl rfl, thenW_in fun l1 e5 => ?_⟩
    have kl := kq.x_set (q := w.heap.size) (i := 1) rfl (.inr bv) e5
    have a0 : Blk l1 w.heap.size 41 [.int .u32 0, .slice none 0 0, .slice none 0 0, .int .i64 0, .int .i64 0] := a0.seti 1 rfl e5
    refine ⟨a0.cani 2 rfl rfl, thenW_in fun ku e6 => ?_⟩
    have km := kl.x_set (q := w.heap.size) (i := 2) rfl (.inr bv) e6
    have a0 : Blk ku w.heap.size 41 [.int .u32 0, .slice none 0 0, .slice none 0 0, .int .i64 0, .int .i64 0] := a0.seti 2 rfl e6
    refine ⟨a0.cani 3 rfl rfl, thenW_in fun kn e7 => ?_⟩
    have ko := km.x_set (q := w.heap.size) (i := 3) rfl (.inr bv) e7
    have a0 : Blk kn w.heap.size 41 [.int .u32 0, .slice none 0 0, .slice none 0 0, .int .i64 0, .int .i64 0] := a0.seti 3 rfl e7
    refine ⟨a0.cani 4 rfl rfl, thenW_in fun k8 e8 => ?_⟩
    have kv := ko.x_set (q := w.heap.size) (i := 4) rfl (.inr bv) e8
    have a0 : Blk k8 w.heap.size 41 [.int .u32 0, .slice none 0 0, .slice none 0 0, .int .i64 0, .int .i64 1] := a0.seti 4 rfl e8
    refine ⟨0, none, 0, 0, none, 0, 0, 0, 1, ⟨a0.celli 0 rfl rfl, a0.celli 1 rfl rfl, a0.celli 2 rfl rfl, a0.celli 3 rfl rfl, a0.celli 4 rfl rfl, trivial⟩, ?_⟩
    have h := h k8 kv
    exact h
  · have h := h.2 (Int.not_lt.1 (of_decide_eq_false c3))
    refine thenW_in fun ft jl => ?_
    have bm := jg.x_drew jl
    have a0 := a0.x_drew jl
    obtain ⟨l7, dx, h⟩ := h
    refine elim_some dx ?_
    obtain ⟨ay, h⟩ := h
    refine ⟨by decide, ay, ?_⟩
    obtain ⟨gq, ip, fw, gu, h⟩ := h
    refine ⟨gq, ip, fw, (bm).cell gu id, ?_⟩
    refine elim_some dx ?_
    obtain ⟨ay, h⟩ := h
    refine ⟨by decide, ay, ?_⟩
    obtain ⟨fc, j3, ih, g4, h⟩ := h
    refine ⟨fc, j3, ih, (bm).cell g4 id, ?_⟩
    have h := h ft (w.heap.size) bm (Priv.cons bv a0.lt Priv.nil)
    refine h.mono fun kp kw h => ?_
    obtain ⟨a2, he, hk, h⟩ := h
    refine ⟨a2, he, ?_⟩
    have a0 := hk.blk a0 (by simp)
    obtain ⟨fd, h⟩ := h
    refine ⟨fd, ?_⟩
    refine h.mono fun ky l0 h => ?_
    obtain ⟨a3, he, hk, h⟩ := h
    refine ⟨a3, he, ?_⟩
    have a0 := hk.blk a0 (by simp)
    obtain ⟨ai, aj, h⟩ := h
    try rw [w64 ai aj]
    refine ⟨by decide, ?_⟩
    refine bif_of (fun gc => ?_) (fun gc => ?_)
    · have h := h.1 (beq_t gc)
      refine bif_of (fun fi => ?_) (fun fi => ?_)
      · have h := h.1 (beq_t fi)
        obtain ⟨ai, aj, h⟩ := h
        try rw [w64 ai aj]
        obtain ⟨b7, aw, b9, h⟩ := h
        refine ⟨b7, aw, by decide, b9, ?_⟩
        refine h.mono fun l2 b2 h => ?_
        obtain ⟨b8, ba, bc, bq, bp, he, hk, h⟩ := h
        refine ⟨b8, ba, bc, bq, bp, he, ?_⟩
        have a0 := hk.blk a0 (by simp)
        refine bif_of (fun fu => ?_) (fun fu => ?_)
        · have h := h.1 (beq_t fu)
          have j6 : Ext (fun b => b = w.heap.size) b2 b2 := ((Ext.refl no b2)).none
          refine ⟨a0.cani 0 rfl rfl, thenW_in fun ig ji => ?_⟩
          have g8 := j6.x_set (q := w.heap.size) (i := 0) rfl (.inl rfl) ji
          have a0 : Blk ig w.heap.size 41 [.int .u32 0, .slice none 0 0, .slice none 0 0, .int .i64 0, .int .i64 0] := a0.seti 0 rfl ji
          refine ⟨a0.cani 1 rfl rfl, thenW_in fun f8 jm => ?_⟩
          have fl := g8.x_set (q := w.heap.size) (i := 1) rfl (.inl rfl) jm
          have a0 : Blk f8 w.heap.size 41 [.int .u32 0, .slice none 0 0, .slice none 0 0, .int .i64 0, .int .i64 0] := a0.seti 1 rfl jm
          refine ⟨a0.cani 2 rfl rfl, thenW_in fun i0 jr => ?_⟩
          have iq := fl.x_set (q := w.heap.size) (i := 2) rfl (.inl rfl) jr
          have a0 : Blk i0 w.heap.size 41 [.int .u32 0, .slice none 0 0, .slice none 0 0, .int .i64 0, .int .i64 0] := a0.seti 2 rfl jr
          refine ⟨a0.cani 3 rfl rfl, thenW_in fun i8 js => ?_⟩
          have gp := iq.x_set (q := w.heap.size) (i := 3) rfl (.inl rfl) js
          have a0 : Blk i8 w.heap.size 41 [.int .u32 0, .slice none 0 0, .slice none 0 0, .int .i64 0, .int .i64 0] := a0.seti 3 rfl js
          refine ⟨a0.cani 4 rfl rfl, thenW_in fun ek kg => ?_⟩
          have g6 := gp.x_set (q := w.heap.size) (i := 4) rfl (.inl rfl) kg
          have a0 : Blk ek w.heap.size 41 [.int .u32 0, .slice none 0 0, .slice none 0 0, .int .i64 0, .int .i64 2] := a0.seti 4 rfl kg
          refine ⟨0, none, 0, 0, none, 0, 0, 0, 2, ⟨a0.celli 0 rfl rfl, a0.celli 1 rfl rfl, a0.celli 2 rfl rfl, a0.celli 3 rfl rfl, a0.celli 4 rfl rfl, trivial⟩, ?_⟩
          have h := h ek g6
          exact h
        · have h := h.2 (beq_f fu)
          have fq : Ext (fun b => b = w.heap.size) b2 b2 := ((Ext.refl no b2)).none
          refine ⟨a0.cani 0 rfl rfl, thenW_in fun j1 k6 => ?_⟩
          have gf := fq.x_set (q := w.heap.size) (i := 0) rfl (.inl rfl) k6
          have a0 : Blk j1 w.heap.size 41 [.int .u32 0, .slice none 0 0, .slice none 0 0, .int .i64 0, .int .i64 0] := a0.seti 0 rfl k6
          refine ⟨a0.cani 1 rfl rfl, thenW_in fun g2 jz => ?_⟩
          have i9 := gf.x_set (q := w.heap.size) (i := 1) rfl (.inl rfl) jz
          have a0 : Blk g2 w.heap.size 41 [.int .u32 0, .slice none 0 0, .slice none 0 0, .int .i64 0, .int .i64 0] := a0.seti 1 rfl jz
          refine ⟨a0.cani 2 rfl rfl, thenW_in fun iz je => ?_⟩
          have j8 := i9.x_set (q := w.heap.size) (i := 2) rfl (.inl rfl) je
          have a0 : Blk iz w.heap.size 41 [.int .u32 0, .slice none 0 0, .slice none 0 0, .int .i64 0, .int .i64 0] := a0.seti 2 rfl je
          refine ⟨a0.cani 3 rfl rfl, thenW_in fun ir jp => ?_⟩
          have it := j8.x_set (q := w.heap.size) (i := 3) rfl (.inl rfl) jp
          have a0 : Blk ir w.heap.size 41 [.int .u32 0, .slice none 0 0, .slice none 0 0, .int .i64 0, .int .i64 0] := a0.seti 3 rfl jp
          refine ⟨a0.cani 4 rfl rfl, thenW_in fun dv k1 => ?_⟩
          have f7 := it.x_set (q := w.heap.size) (i := 4) rfl (.inl rfl) k1
          have a0 : Blk dv w.heap.size 41 [.int .u32 0, .slice none 0 0, .slice none 0 0, .int .i64 0, .int .i64 0] := a0.seti 4 rfl k1
          refine ⟨0, none, 0, 0, none, 0, 0, 0, 0, ⟨a0.celli 0 rfl rfl, a0.celli 1 rfl rfl, a0.celli 2 rfl rfl, a0.celli 3 rfl rfl, a0.celli 4 rfl rfl, trivial⟩, ?_⟩
          have h := h dv f7
          exact h
      · have h := h.2 (beq_f fi)
        refine bif_of (fun fh => ?_) (fun fh => ?_)
        · have h := h.1 (of_decide_eq_true fh)
          obtain ⟨ai, aj, h⟩ := h
          try rw [w64 ai aj]
          obtain ⟨ai, aj, h⟩ := h
          try rw [w64 ai aj]
          obtain ⟨b7, aw, ay, b9, h⟩ := h
          refine ⟨b7, aw, ay, b9, ?_⟩
          refine h.mono fun ks av h => ?_
          obtain ⟨ae, a9, a5, au, bs, he, hk, h⟩ := h
          refine ⟨ae, a9, a5, au, bs, he, ?_⟩
          have a0 := hk.blk a0 (by simp)
          refine bif_of (fun gh => ?_) (fun gh => ?_)
          · have h := h.1 (beq_t gh)
            have iy : Ext (fun b => b = w.heap.size) av av := ((Ext.refl no av)).none
            refine ⟨a0.cani 0 rfl rfl, thenW_in fun iw jk => ?_⟩
            have gx := iy.x_set (q := w.heap.size) (i := 0) rfl (.inl rfl) jk
            have a0 : Blk iw w.heap.size 41 [.int .u32 0, .slice none 0 0, .slice none 0 0, .int .i64 0, .int .i64 0] := a0.seti 0 rfl jk
            refine ⟨a0.cani 1 rfl rfl, thenW_in fun f9 jf => ?_⟩
            have fk := gx.x_set (q := w.heap.size) (i := 1) rfl (.inl rfl) jf
            have a0 : Blk f9 w.heap.size 41 [.int .u32 0, .slice none 0 0, .slice none 0 0, .int .i64 0, .int .i64 0] := a0.seti 1 rfl jf
            refine ⟨a0.cani 2 rfl rfl, thenW_in fun gz jv => ?_⟩
            have ix := fk.x_set (q := w.heap.size) (i := 2) rfl (.inl rfl) jv
            have a0 : Blk gz w.heap.size 41 [.int .u32 0, .slice none 0 0, .slice none 0 0, .int .i64 0, .int .i64 0] := a0.seti 2 rfl jv
            refine ⟨a0.cani 3 rfl rfl, thenW_in fun fr kh => ?_⟩
            have i4 := ix.x_set (q := w.heap.size) (i := 3) rfl (.inl rfl) kh
            have a0 : Blk fr w.heap.size 41 [.int .u32 0, .slice none 0 0, .slice none 0 0, .int .i64 0, .int .i64 0] := a0.seti 3 rfl kh
            refine ⟨a0.cani 4 rfl rfl, thenW_in fun ez jb => ?_⟩
            have fg := i4.x_set (q := w.heap.size) (i := 4) rfl (.inl rfl) jb
            have a0 : Blk ez w.heap.size 41 [.int .u32 0, .slice none 0 0, .slice none 0 0, .int .i64 0, .int .i64 2] := a0.seti 4 rfl jb
            refine ⟨0, none, 0, 0, none, 0, 0, 0, 2, ⟨a0.celli 0 rfl rfl, a0.celli 1 rfl rfl, a0.celli 2 rfl rfl, a0.celli 3 rfl rfl, a0.celli 4 rfl rfl, trivial⟩, ?_⟩
            have h := h ez fg
            exact h
          · have h := h.2 (beq_f gh)
            refine bif_of (fun j2 => ?_) (fun j2 => ?_)
            · have h := h.1 (beq_t j2)
              have g9 : Ext (fun b => b = w.heap.size) av av := ((Ext.refl no av)).none
              refine ⟨a0.cani 0 rfl rfl, thenW_in fun gb k3 => ?_⟩
              have i7 := g9.x_set (q := w.heap.size) (i := 0) rfl (.inl rfl) k3
              have a0 : Blk gb w.heap.size 41 [.int .u32 0, .slice none 0 0, .slice none 0 0, .int .i64 0, .int .i64 0] := a0.seti 0 rfl k3
              refine ⟨a0.cani 1 rfl rfl, thenW_in fun fy kj => ?_⟩
              have g1 := i7.x_set (q := w.heap.size) (i := 1) rfl (.inl rfl) kj
              have a0 : Blk fy w.heap.size 41 [.int .u32 0, .slice none 0 0, .slice none 0 0, .int .i64 0, .int .i64 0] := a0.seti 1 rfl kj
              refine ⟨a0.cani 2 rfl rfl, thenW_in fun i2 kf => ?_⟩
              have ik := g1.x_set (q := w.heap.size) (i := 2) rfl (.inl rfl) kf
              have a0 : Blk i2 w.heap.size 41 [.int .u32 0, .slice none 0 0, .slice none 0 0, .int .i64 0, .int .i64 0] := a0.seti 2 rfl kf
              refine ⟨a0.cani 3 rfl rfl, thenW_in fun gk ju => ?_⟩
              have gs := ik.x_set (q := w.heap.size) (i := 3) rfl (.inl rfl) ju
              have a0 : Blk gk w.heap.size 41 [.int .u32 0, .slice none 0 0, .slice none 0 0, .int .i64 0, .int .i64 0] := a0.seti 3 rfl ju
              refine ⟨a0.cani 4 rfl rfl, thenW_in fun cd jh => ?_⟩
              have gy := gs.x_set (q := w.heap.size) (i := 4) rfl (.inl rfl) jh
              have a0 : Blk cd w.heap.size 41 [.int .u32 0, .slice none 0 0, .slice none 0 0, .int .i64 0, .int .i64 4] := a0.seti 4 rfl jh
              refine ⟨0, none, 0, 0, none, 0, 0, 0, 4, ⟨a0.celli 0 rfl rfl, a0.celli 1 rfl rfl, a0.celli 2 rfl rfl, a0.celli 3 rfl rfl, a0.celli 4 rfl rfl, trivial⟩, ?_⟩
              have h := h cd gy
              exact h
            · have h := h.2 (beq_f j2)
              refine thenW_in fun iu ki => ?_
              have cv := (Ext.refl no av).x_drew ki
              have a0 := a0.x_drew ki
              obtain ⟨l5, fx, h⟩ := h
              refine elim_some fx ?_
              obtain ⟨ay, h⟩ := h
              refine ⟨by decide, ay, ?_⟩
              obtain ⟨b4, b5, b0, fb, h⟩ := h
              refine ⟨b4, b5, b0, (cv).cell fb id, ?_⟩
              obtain ⟨aw, h⟩ := h
              refine ⟨by decide, aw, ?_⟩
              obtain ⟨ai, aj, h⟩ := h
              try rw [w64 ai aj]
              have ff : Ext (fun b => b = w.heap.size) av iu := (cv).none
              refine ⟨a0.cani 0 rfl rfl, thenW_in fun g7 ja => ?_⟩
              have ia := ff.x_set (q := w.heap.size) (i := 0) rfl (.inl rfl) ja
              have a0 : Blk g7 w.heap.size 41 [.int .u32 a3, .slice none 0 0, .slice none 0 0, .int .i64 0, .int .i64 0] := a0.seti 0 rfl ja
              refine ⟨a0.cani 1 rfl rfl, thenW_in fun f6 jw => ?_⟩
              have iv := ia.x_set (q := w.heap.size) (i := 1) rfl (.inl rfl) jw
              have a0 : Blk f6 w.heap.size 41 [.int .u32 a3, .slice b4 b5 b0, .slice none 0 0, .int .i64 0, .int .i64 0] := a0.seti 1 rfl jw
              refine ⟨a0.cani 2 rfl rfl, thenW_in fun gl jt => ?_⟩
              have ge := iv.x_set (q := w.heap.size) (i := 2) rfl (.inl rfl) jt
              have a0 : Blk gl w.heap.size 41 [.int .u32 a3, .slice b4 b5 b0, .slice (cutA ae a5 1 1) (a9 - 1) (a5 - 1), .int .i64 0, .int .i64 0] := a0.seti 2 rfl jt
              refine ⟨a0.cani 3 rfl rfl, thenW_in fun fe jy => ?_⟩
              have ii := ge.x_set (q := w.heap.size) (i := 3) rfl (.inl rfl) jy
              have a0 : Blk fe w.heap.size 41 [.int .u32 a3, .slice b4 b5 b0, .slice (cutA ae a5 1 1) (a9 - 1) (a5 - 1), .int .i64 ((IntKind.i64.wrap (Int.tdiv ((az : Int) - 2) 2)) - au), .int .i64 0] := a0.seti 3 rfl jy
              refine ⟨a0.cani 4 rfl rfl, thenW_in fun eb jc => ?_⟩
              have gi := ii.x_set (q := w.heap.size) (i := 4) rfl (.inl rfl) jc
              have a0 : Blk eb w.heap.size 41 [.int .u32 a3, .slice b4 b5 b0, .slice (cutA ae a5 1 1) (a9 - 1) (a5 - 1), .int .i64 ((IntKind.i64.wrap (Int.tdiv ((az : Int) - 2) 2)) - au), .int .i64 0] := a0.seti 4 rfl jc
              refine ⟨a3, b4, b5, b0, (cutA ae a5 1 1), (a9 - 1), (a5 - 1), ((IntKind.i64.wrap (Int.tdiv ((az : Int) - 2) 2)) - au), 0, ⟨a0.celli 0 rfl rfl, a0.celli 1 rfl rfl, a0.celli 2 rfl rfl, a0.celli 3 rfl rfl, a0.celli 4 rfl rfl, trivial⟩, ?_⟩
              have h := h eb gi
              exact h
        · have h := h.2 (Int.not_lt.1 (of_decide_eq_false fh))
          obtain ⟨ai, aj, h⟩ := h
          try rw [w64 ai aj]
          obtain ⟨b7, aw, b9, h⟩ := h
          refine ⟨b7, aw, by decide, b9, ?_⟩
          refine h.mono fun kr ax h => ?_
          obtain ⟨aa, ac, a4, aq, bu, he, hk, h⟩ := h
          refine ⟨aa, ac, a4, aq, bu, he, ?_⟩
          have a0 := hk.blk a0 (by simp)
          refine bif_of (fun j5 => ?_) (fun j5 => ?_)
          · have h := h.1 (beq_t j5)
            have gv : Ext (fun b => b = w.heap.size) ax ax := ((Ext.refl no ax)).none
            refine ⟨a0.cani 0 rfl rfl, thenW_in fun gj jn => ?_⟩
            have gn := gv.x_set (q := w.heap.size) (i := 0) rfl (.inl rfl) jn
            have a0 : Blk gj w.heap.size 41 [.int .u32 0, .slice none 0 0, .slice none 0 0, .int .i64 0, .int .i64 0] := a0.seti 0 rfl jn
            refine ⟨a0.cani 1 rfl rfl, thenW_in fun gw kk => ?_⟩
            have i1 := gn.x_set (q := w.heap.size) (i := 1) rfl (.inl rfl) kk
            have a0 : Blk gw w.heap.size 41 [.int .u32 0, .slice none 0 0, .slice none 0 0, .int .i64 0, .int .i64 0] := a0.seti 1 rfl kk
            refine ⟨a0.cani 2 rfl rfl, thenW_in fun fv kc => ?_⟩
            have fp := i1.x_set (q := w.heap.size) (i := 2) rfl (.inl rfl) kc
            have a0 : Blk fv w.heap.size 41 [.int .u32 0, .slice none 0 0, .slice none 0 0, .int .i64 0, .int .i64 0] := a0.seti 2 rfl kc
            refine ⟨a0.cani 3 rfl rfl, thenW_in fun j4 jj => ?_⟩
            have j0 := fp.x_set (q := w.heap.size) (i := 3) rfl (.inl rfl) jj
            have a0 : Blk j4 w.heap.size 41 [.int .u32 0, .slice none 0 0, .slice none 0 0, .int .i64 0, .int .i64 0] := a0.seti 3 rfl jj
            refine ⟨a0.cani 4 rfl rfl, thenW_in fun ce jd => ?_⟩
            have io := j0.x_set (q := w.heap.size) (i := 4) rfl (.inl rfl) jd
            have a0 : Blk ce w.heap.size 41 [.int .u32 0, .slice none 0 0, .slice none 0 0, .int .i64 0, .int .i64 2] := a0.seti 4 rfl jd
            refine ⟨0, none, 0, 0, none, 0, 0, 0, 2, ⟨a0.celli 0 rfl rfl, a0.celli 1 rfl rfl, a0.celli 2 rfl rfl, a0.celli 3 rfl rfl, a0.celli 4 rfl rfl, trivial⟩, ?_⟩
            have h := h ce io
            exact h
          · have h := h.2 (beq_f j5)
            refine bif_of (fun j7 => ?_) (fun j7 => ?_)
            · have h := h.1 (beq_t j7)
              have g3 : Ext (fun b => b = w.heap.size) ax ax := ((Ext.refl no ax)).none
              refine ⟨a0.cani 0 rfl rfl, thenW_in fun gm ka => ?_⟩
              have im := g3.x_set (q := w.heap.size) (i := 0) rfl (.inl rfl) ka
              have a0 : Blk gm w.heap.size 41 [.int .u32 0, .slice none 0 0, .slice none 0 0, .int .i64 0, .int .i64 0] := a0.seti 0 rfl ka
              refine ⟨a0.cani 1 rfl rfl, thenW_in fun fs k0 => ?_⟩
              have g5 := im.x_set (q := w.heap.size) (i := 1) rfl (.inl rfl) k0
              have a0 : Blk fs w.heap.size 41 [.int .u32 0, .slice none 0 0, .slice none 0 0, .int .i64 0, .int .i64 0] := a0.seti 1 rfl k0
              refine ⟨a0.cani 2 rfl rfl, thenW_in fun gr k7 => ?_⟩
              have fz := g5.x_set (q := w.heap.size) (i := 2) rfl (.inl rfl) k7
              have a0 : Blk gr w.heap.size 41 [.int .u32 0, .slice none 0 0, .slice none 0 0, .int .i64 0, .int .i64 0] := a0.seti 2 rfl k7
              refine ⟨a0.cani 3 rfl rfl, thenW_in fun ib jo => ?_⟩
              have fo := fz.x_set (q := w.heap.size) (i := 3) rfl (.inl rfl) jo
              have a0 : Blk ib w.heap.size 41 [.int .u32 0, .slice none 0 0, .slice none 0 0, .int .i64 0, .int .i64 0] := a0.seti 3 rfl jo
              refine ⟨a0.cani 4 rfl rfl, thenW_in fun ch k9 => ?_⟩
              have gg := fo.x_set (q := w.heap.size) (i := 4) rfl (.inl rfl) k9
              have a0 : Blk ch w.heap.size 41 [.int .u32 0, .slice none 0 0, .slice none 0 0, .int .i64 0, .int .i64 4] := a0.seti 4 rfl k9
              refine ⟨0, none, 0, 0, none, 0, 0, 0, 4, ⟨a0.celli 0 rfl rfl, a0.celli 1 rfl rfl, a0.celli 2 rfl rfl, a0.celli 3 rfl rfl, a0.celli 4 rfl rfl, trivial⟩, ?_⟩
              have h := h ch gg
              exact h
            · have h := h.2 (beq_f j7)
              refine thenW_in fun g0 j9 => ?_
              have dl := (Ext.refl no ax).x_drew j9
              have a0 := a0.x_drew j9
              obtain ⟨l4, i5, h⟩ := h
              refine elim_some i5 ?_
              obtain ⟨ay, h⟩ := h
              refine ⟨by decide, ay, ?_⟩
              obtain ⟨b6, b1, b3, ic, h⟩ := h
              refine ⟨b6, b1, b3, (dl).cell ic id, ?_⟩
              obtain ⟨aw, h⟩ := h
              refine ⟨by decide, aw, ?_⟩
              obtain ⟨ai, aj, h⟩ := h
              try rw [w64 ai aj]
              have gd : Ext (fun b => b = w.heap.size) ax g0 := (dl).none
              refine ⟨a0.cani 0 rfl rfl, thenW_in fun ij kd => ?_⟩
              have il := gd.x_set (q := w.heap.size) (i := 0) rfl (.inl rfl) kd
              have a0 : Blk ij w.heap.size 41 [.int .u32 a2, .slice none 0 0, .slice none 0 0, .int .i64 0, .int .i64 0] := a0.seti 0 rfl kd
              refine ⟨a0.cani 1 rfl rfl, thenW_in fun i3 jq => ?_⟩
              have gt := il.x_set (q := w.heap.size) (i := 1) rfl (.inl rfl) jq
              have a0 : Blk i3 w.heap.size 41 [.int .u32 a2, .slice b6 b1 b3, .slice none 0 0, .int .i64 0, .int .i64 0] := a0.seti 1 rfl jq
              refine ⟨a0.cani 2 rfl rfl, thenW_in fun fm jx => ?_⟩
              have i6 := gt.x_set (q := w.heap.size) (i := 2) rfl (.inl rfl) jx
              have a0 : Blk fm w.heap.size 41 [.int .u32 a2, .slice b6 b1 b3, .slice (cutA aa a4 1 1) (ac - 1) (a4 - 1), .int .i64 0, .int .i64 0] := a0.seti 2 rfl jx
              refine ⟨a0.cani 3 rfl rfl, thenW_in fun fa k4 => ?_⟩
              have ie := i6.x_set (q := w.heap.size) (i := 3) rfl (.inl rfl) k4
              have a0 : Blk fa w.heap.size 41 [.int .u32 a2, .slice b6 b1 b3, .slice (cutA aa a4 1 1) (ac - 1) (a4 - 1), .int .i64 ((IntKind.i64.wrap (Int.tdiv ((az : Int) - 2) 2)) - aq), .int .i64 0] := a0.seti 3 rfl k4
              refine ⟨a0.cani 4 rfl rfl, thenW_in fun ed kb => ?_⟩
              have fj := ie.x_set (q := w.heap.size) (i := 4) rfl (.inl rfl) kb
              have a0 : Blk ed w.heap.size 41 [.int .u32 a2, .slice b6 b1 b3, .slice (cutA aa a4 1 1) (ac - 1) (a4 - 1), .int .i64 ((IntKind.i64.wrap (Int.tdiv ((az : Int) - 2) 2)) - aq), .int .i64 0] := a0.seti 4 rfl kb
              refine ⟨a2, b6, b1, b3, (cutA aa a4 1 1), (ac - 1), (a4 - 1), ((IntKind.i64.wrap (Int.tdiv ((az : Int) - 2) 2)) - aq), 0, ⟨a0.celli 0 rfl rfl, a0.celli 1 rfl rfl, a0.celli 2 rfl rfl, a0.celli 3 rfl rfl, a0.celli 4 rfl rfl, trivial⟩, ?_⟩
              have h := h ed fj
              exact h
    · have h := h.2 (beq_f gc)
      refine bif_of (fun ga => ?_) (fun ga => ?_)
      · have h := h.1 (of_decide_eq_true ga)
        obtain ⟨ai, aj, h⟩ := h
        try rw [w64 ai aj]
        obtain ⟨ai, aj, h⟩ := h
        try rw [w64 ai aj]
        obtain ⟨b7, aw, ay, b9, h⟩ := h
        refine ⟨b7, aw, ay, b9, ?_⟩
        refine h.mono fun kt ag h => ?_
        obtain ⟨ab, ad, a6, ar, bo, he, hk, h⟩ := h
        refine ⟨ab, ad, a6, ar, bo, he, ?_⟩
        have a0 := hk.blk a0 (by simp)
        refine bif_of (fun bn => ?_) (fun bn => ?_)
        · have h := h.1 (beq_t bn)
          have dh : Ext (fun b => b = w.heap.size) ag ag := ((Ext.refl no ag)).none
          refine ⟨a0.cani 0 rfl rfl, thenW_in fun c2 c0 => ?_⟩
          have ev := dh.x_set (q := w.heap.size) (i := 0) rfl (.inl rfl) c0
          have a0 : Blk c2 w.heap.size 41 [.int .u32 0, .slice none 0 0, .slice none 0 0, .int .i64 0, .int .i64 0] := a0.seti 0 rfl c0
          refine ⟨a0.cani 1 rfl rfl, thenW_in fun d7 cb => ?_⟩
          have d8 := ev.x_set (q := w.heap.size) (i := 1) rfl (.inl rfl) cb
          have a0 : Blk d7 w.heap.size 41 [.int .u32 0, .slice none 0 0, .slice none 0 0, .int .i64 0, .int .i64 0] := a0.seti 1 rfl cb
          refine ⟨a0.cani 2 rfl rfl, thenW_in fun ep ew => ?_⟩
          have dd := d8.x_set (q := w.heap.size) (i := 2) rfl (.inl rfl) ew
          have a0 : Blk ep w.heap.size 41 [.int .u32 0, .slice none 0 0, .slice none 0 0, .int .i64 0, .int .i64 0] := a0.seti 2 rfl ew
          refine ⟨a0.cani 3 rfl rfl, thenW_in fun d2 dp => ?_⟩
          have dt := dd.x_set (q := w.heap.size) (i := 3) rfl (.inl rfl) dp
          have a0 : Blk d2 w.heap.size 41 [.int .u32 0, .slice none 0 0, .slice none 0 0, .int .i64 0, .int .i64 0] := a0.seti 3 rfl dp
          refine ⟨a0.cani 4 rfl rfl, thenW_in fun be ej => ?_⟩
          have c8 := dt.x_set (q := w.heap.size) (i := 4) rfl (.inl rfl) ej
          have a0 : Blk be w.heap.size 41 [.int .u32 0, .slice none 0 0, .slice none 0 0, .int .i64 0, .int .i64 2] := a0.seti 4 rfl ej
          refine ⟨0, none, 0, 0, none, 0, 0, 0, 2, ⟨a0.celli 0 rfl rfl, a0.celli 1 rfl rfl, a0.celli 2 rfl rfl, a0.celli 3 rfl rfl, a0.celli 4 rfl rfl, trivial⟩, ?_⟩
          have h := h be c8
          exact h
        · have h := h.2 (beq_f bn)
          refine bif_of (fun br => ?_) (fun br => ?_)
          · have h := h.1 (beq_t br)
            have e9 : Ext (fun b => b = w.heap.size) ag ag := ((Ext.refl no ag)).none
            refine ⟨a0.cani 0 rfl rfl, thenW_in fun cj f5 => ?_⟩
            have ef := e9.x_set (q := w.heap.size) (i := 0) rfl (.inl rfl) f5
            have a0 : Blk cj w.heap.size 41 [.int .u32 0, .slice none 0 0, .slice none 0 0, .int .i64 0, .int .i64 0] := a0.seti 0 rfl f5
            refine ⟨a0.cani 1 rfl rfl, thenW_in fun co cn => ?_⟩
            have ei := ef.x_set (q := w.heap.size) (i := 1) rfl (.inl rfl) cn
            have a0 : Blk co w.heap.size 41 [.int .u32 0, .slice none 0 0, .slice none 0 0, .int .i64 0, .int .i64 0] := a0.seti 1 rfl cn
            refine ⟨a0.cani 2 rfl rfl, thenW_in fun f1 c9 => ?_⟩
            have cq := ei.x_set (q := w.heap.size) (i := 2) rfl (.inl rfl) c9
            have a0 : Blk f1 w.heap.size 41 [.int .u32 0, .slice none 0 0, .slice none 0 0, .int .i64 0, .int .i64 0] := a0.seti 2 rfl c9
            refine ⟨a0.cani 3 rfl rfl, thenW_in fun cm en => ?_⟩
            have cw := cq.x_set (q := w.heap.size) (i := 3) rfl (.inl rfl) en
            have a0 : Blk cm w.heap.size 41 [.int .u32 0, .slice none 0 0, .slice none 0 0, .int .i64 0, .int .i64 0] := a0.seti 3 rfl en
            refine ⟨a0.cani 4 rfl rfl, thenW_in fun bj dm => ?_⟩
            have cl := cw.x_set (q := w.heap.size) (i := 4) rfl (.inl rfl) dm
            have a0 : Blk bj w.heap.size 41 [.int .u32 0, .slice none 0 0, .slice none 0 0, .int .i64 0, .int .i64 4] := a0.seti 4 rfl dm
            refine ⟨0, none, 0, 0, none, 0, 0, 0, 4, ⟨a0.celli 0 rfl rfl, a0.celli 1 rfl rfl, a0.celli 2 rfl rfl, a0.celli 3 rfl rfl, a0.celli 4 rfl rfl, trivial⟩, ?_⟩
            have h := h bj cl
            exact h
          · have h := h.2 (beq_f br)
            refine thenW_in fun em eu => ?_
            have bd := (Ext.refl no ag).x_drew eu
            have a0 := a0.x_drew eu
            obtain ⟨kz, c7, h⟩ := h
            refine elim_some c7 ?_
            obtain ⟨ay, h⟩ := h
            refine ⟨by decide, ay, ?_⟩
            obtain ⟨ak, ap, al, du, h⟩ := h
            refine ⟨ak, ap, al, (bd).cell du id, ?_⟩
            obtain ⟨aw, h⟩ := h
            refine ⟨by decide, aw, ?_⟩
            obtain ⟨ai, aj, h⟩ := h
            try rw [w64 ai aj]
            have ee : Ext (fun b => b = w.heap.size) ag em := (bd).none
            refine ⟨a0.cani 0 rfl rfl, thenW_in fun ct er => ?_⟩
            have dg := ee.x_set (q := w.heap.size) (i := 0) rfl (.inl rfl) er
            have a0 : Blk ct w.heap.size 41 [.int .u32 a3, .slice none 0 0, .slice none 0 0, .int .i64 0, .int .i64 0] := a0.seti 0 rfl er
            refine ⟨a0.cani 1 rfl rfl, thenW_in fun ca di => ?_⟩
            have ec := dg.x_set (q := w.heap.size) (i := 1) rfl (.inl rfl) di
            have a0 : Blk ca w.heap.size 41 [.int .u32 a3, .slice ak ap al, .slice none 0 0, .int .i64 0, .int .i64 0] := a0.seti 1 rfl di
            refine ⟨a0.cani 2 rfl rfl, thenW_in fun df ci => ?_⟩
            have cx := ec.x_set (q := w.heap.size) (i := 2) rfl (.inl rfl) ci
            have a0 : Blk df w.heap.size 41 [.int .u32 a3, .slice ak ap al, .slice (cutA ab a6 1 1) (ad - 1) (a6 - 1), .int .i64 0, .int .i64 0] := a0.seti 2 rfl ci
            refine ⟨a0.cani 3 rfl rfl, thenW_in fun cg dy => ?_⟩
            have eq := cx.x_set (q := w.heap.size) (i := 3) rfl (.inl rfl) dy
            have a0 : Blk cg w.heap.size 41 [.int .u32 a3, .slice ak ap al, .slice (cutA ab a6 1 1) (ad - 1) (a6 - 1), .int .i64 ((IntKind.i64.wrap (Int.tdiv ((az : Int) - 2) 2)) - ar), .int .i64 0] := a0.seti 3 rfl dy
            refine ⟨a0.cani 4 rfl rfl, thenW_in fun bf el => ?_⟩
            have d9 := eq.x_set (q := w.heap.size) (i := 4) rfl (.inl rfl) el
            have a0 : Blk bf w.heap.size 41 [.int .u32 a3, .slice ak ap al, .slice (cutA ab a6 1 1) (ad - 1) (a6 - 1), .int .i64 ((IntKind.i64.wrap (Int.tdiv ((az : Int) - 2) 2)) - ar), .int .i64 0] := a0.seti 4 rfl el
            refine ⟨a3, ak, ap, al, (cutA ab a6 1 1), (ad - 1), (a6 - 1), ((IntKind.i64.wrap (Int.tdiv ((az : Int) - 2) 2)) - ar), 0, ⟨a0.celli 0 rfl rfl, a0.celli 1 rfl rfl, a0.celli 2 rfl rfl, a0.celli 3 rfl rfl, a0.celli 4 rfl rfl, trivial⟩, ?_⟩
            have h := h bf d9
            exact h
      · have h := h.2 (Int.not_lt.1 (of_decide_eq_false ga))
        obtain ⟨ai, aj, h⟩ := h
        try rw [w64 ai aj]
        obtain ⟨b7, aw, b9, h⟩ := h
        refine ⟨b7, aw, by decide, b9, ?_⟩
        refine h.mono fun k2 af h => ?_
        obtain ⟨a8, a7, a1, ah, bb, he, hk, h⟩ := h
        refine ⟨a8, a7, a1, ah, bb, he, ?_⟩
        have a0 := hk.blk a0 (by simp)
        refine bif_of (fun bl => ?_) (fun bl => ?_)
        · have h := h.1 (beq_t bl)
          have cz : Ext (fun b => b = w.heap.size) af af := ((Ext.refl no af)).none
          refine ⟨a0.cani 0 rfl rfl, thenW_in fun ex d4 => ?_⟩
          have f0 := cz.x_set (q := w.heap.size) (i := 0) rfl (.inl rfl) d4
          have a0 : Blk ex w.heap.size 41 [.int .u32 0, .slice none 0 0, .slice none 0 0, .int .i64 0, .int .i64 0] := a0.seti 0 rfl d4
          refine ⟨a0.cani 1 rfl rfl, thenW_in fun bw c4 => ?_⟩
          have ey := f0.x_set (q := w.heap.size) (i := 1) rfl (.inl rfl) c4
          have a0 : Blk bw w.heap.size 41 [.int .u32 0, .slice none 0 0, .slice none 0 0, .int .i64 0, .int .i64 0] := a0.seti 1 rfl c4
          refine ⟨a0.cani 2 rfl rfl, thenW_in fun bx ds => ?_⟩
          have dw := ey.x_set (q := w.heap.size) (i := 2) rfl (.inl rfl) ds
          have a0 : Blk bx w.heap.size 41 [.int .u32 0, .slice none 0 0, .slice none 0 0, .int .i64 0, .int .i64 0] := a0.seti 2 rfl ds
          refine ⟨a0.cani 3 rfl rfl, thenW_in fun de c5 => ?_⟩
          have f4 := dw.x_set (q := w.heap.size) (i := 3) rfl (.inl rfl) c5
          have a0 : Blk de w.heap.size 41 [.int .u32 0, .slice none 0 0, .slice none 0 0, .int .i64 0, .int .i64 0] := a0.seti 3 rfl c5
          refine ⟨a0.cani 4 rfl rfl, thenW_in fun bk dn => ?_⟩
          have cf := f4.x_set (q := w.heap.size) (i := 4) rfl (.inl rfl) dn
          have a0 : Blk bk w.heap.size 41 [.int .u32 0, .slice none 0 0, .slice none 0 0, .int .i64 0, .int .i64 2] := a0.seti 4 rfl dn
          refine ⟨0, none, 0, 0, none, 0, 0, 0, 2, ⟨a0.celli 0 rfl rfl, a0.celli 1 rfl rfl, a0.celli 2 rfl rfl, a0.celli 3 rfl rfl, a0.celli 4 rfl rfl, trivial⟩, ?_⟩
          have h := h bk cf
          exact h
        · have h := h.2 (beq_f bl)
          refine bif_of (fun bt => ?_) (fun bt => ?_)
          · have h := h.1 (beq_t bt)
            have dj : Ext (fun b => b = w.heap.size) af af := ((Ext.refl no af)).none
            refine ⟨a0.cani 0 rfl rfl, thenW_in fun et dz => ?_⟩
            have e3 := dj.x_set (q := w.heap.size) (i := 0) rfl (.inl rfl) dz
            have a0 : Blk et w.heap.size 41 [.int .u32 0, .slice none 0 0, .slice none 0 0, .int .i64 0, .int .i64 0] := a0.seti 0 rfl dz
            refine ⟨a0.cani 1 rfl rfl, thenW_in fun e1 cy => ?_⟩
            have f2 := e3.x_set (q := w.heap.size) (i := 1) rfl (.inl rfl) cy
            have a0 : Blk e1 w.heap.size 41 [.int .u32 0, .slice none 0 0, .slice none 0 0, .int .i64 0, .int .i64 0] := a0.seti 1 rfl cy
            refine ⟨a0.cani 2 rfl rfl, thenW_in fun ea dc => ?_⟩
            have cp := f2.x_set (q := w.heap.size) (i := 2) rfl (.inl rfl) dc
            have a0 : Blk ea w.heap.size 41 [.int .u32 0, .slice none 0 0, .slice none 0 0, .int .i64 0, .int .i64 0] := a0.seti 2 rfl dc
            refine ⟨a0.cani 3 rfl rfl, thenW_in fun db eo => ?_⟩
            have dr := cp.x_set (q := w.heap.size) (i := 3) rfl (.inl rfl) eo
            have a0 : Blk db w.heap.size 41 [.int .u32 0, .slice none 0 0, .slice none 0 0, .int .i64 0, .int .i64 0] := a0.seti 3 rfl eo
            refine ⟨a0.cani 4 rfl rfl, thenW_in fun bi cc => ?_⟩
            have d5 := dr.x_set (q := w.heap.size) (i := 4) rfl (.inl rfl) cc
            have a0 : Blk bi w.heap.size 41 [.int .u32 0, .slice none 0 0, .slice none 0 0, .int .i64 0, .int .i64 4] := a0.seti 4 rfl cc
            refine ⟨0, none, 0, 0, none, 0, 0, 0, 4, ⟨a0.celli 0 rfl rfl, a0.celli 1 rfl rfl, a0.celli 2 rfl rfl, a0.celli 3 rfl rfl, a0.celli 4 rfl rfl, trivial⟩, ?_⟩
            have h := h bi d5
            exact h
          · have h := h.2 (beq_f bt)
            refine thenW_in fun dk eh => ?_
            have bg := (Ext.refl no af).x_drew eh
            have a0 := a0.x_drew eh
            obtain ⟨kx, e0, h⟩ := h
            refine elim_some e0 ?_
            obtain ⟨ay, h⟩ := h
            refine ⟨by decide, ay, ?_⟩
            obtain ⟨ao, am, an, d3, h⟩ := h
            refine ⟨ao, am, an, (bg).cell d3 id, ?_⟩
            obtain ⟨aw, h⟩ := h
            refine ⟨by decide, aw, ?_⟩
            obtain ⟨ai, aj, h⟩ := h
            try rw [w64 ai aj]
            have d0 : Ext (fun b => b = w.heap.size) af dk := (bg).none
            refine ⟨a0.cani 0 rfl rfl, thenW_in fun cu bz => ?_⟩
            have cr := d0.x_set (q := w.heap.size) (i := 0) rfl (.inl rfl) bz
            have a0 : Blk cu w.heap.size 41 [.int .u32 a2, .slice none 0 0, .slice none 0 0, .int .i64 0, .int .i64 0] := a0.seti 0 rfl bz
            refine ⟨a0.cani 1 rfl rfl, thenW_in fun cs c1 => ?_⟩
            have c6 := cr.x_set (q := w.heap.size) (i := 1) rfl (.inl rfl) c1
            have a0 : Blk cs w.heap.size 41 [.int .u32 a2, .slice ao am an, .slice none 0 0, .int .i64 0, .int .i64 0] := a0.seti 1 rfl c1
            refine ⟨a0.cani 2 rfl rfl, thenW_in fun f3 d1 => ?_⟩
            have eg := c6.x_set (q := w.heap.size) (i := 2) rfl (.inl rfl) d1
            have a0 : Blk f3 w.heap.size 41 [.int .u32 a2, .slice ao am an, .slice (cutA a8 a1 1 1) (a7 - 1) (a1 - 1), .int .i64 0, .int .i64 0] := a0.seti 2 rfl d1
            refine ⟨a0.cani 3 rfl rfl, thenW_in fun d6 dq => ?_⟩
            have da := eg.x_set (q := w.heap.size) (i := 3) rfl (.inl rfl) dq
            have a0 : Blk d6 w.heap.size 41 [.int .u32 a2, .slice ao am an, .slice (cutA a8 a1 1 1) (a7 - 1) (a1 - 1), .int .i64 ((IntKind.i64.wrap (Int.tdiv ((az : Int) - 2) 2)) - ah), .int .i64 0] := a0.seti 3 rfl dq
            refine ⟨a0.cani 4 rfl rfl, thenW_in fun bh ck => ?_⟩
            have es := da.x_set (q := w.heap.size) (i := 4) rfl (.inl rfl) ck
            have a0 : Blk bh w.heap.size 41 [.int .u32 a2, .slice ao am an, .slice (cutA a8 a1 1 1) (a7 - 1) (a1 - 1), .int .i64 ((IntKind.i64.wrap (Int.tdiv ((az : Int) - 2) 2)) - ah), .int .i64 0] := a0.seti 4 rfl ck
            refine ⟨a2, ao, am, an, (cutA a8 a1 1 1), (a7 - 1), (a1 - 1), ((IntKind.i64.wrap (Int.tdiv ((az : Int) - 2) 2)) - ah), 0, ⟨a0.celli 0 rfl rfl, a0.celli 1 rfl rfl, a0.celli 2 rfl rfl, a0.celli 3 rfl rfl, a0.celli 4 rfl rfl, trivial⟩, ?_⟩
            have h := h bh es
            exact h

theorem cachetteref11_Of.go (a2 : Option Addr) (a1 : Nat) (a0 : Nat) {R : Value → World → Prop} {w : World} (h : cachetteref11_Of.N a2 a1 a0 R w) : Calls Try.prog 12 #[.slice a2 a1 a0] w fun e w' => ∃ v, e = .returned v ∧ R v w' := cachetteref11_Of.ok a2 a1 a0 (cachetteref11_Of.up a2 a1 a0 h)
end Go.Proofs.Ytidijnfkcpbkiaa

