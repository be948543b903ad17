/- Epochs: predicates. -/
import Derived.Test.YtgeakpldocfccaaZC
import Derived.Test.YtgeakpldocfccaaZD
import Derived.Test.YtgeakpldocfccaaZA
set_option linter.unusedVariables false
set_option linter.unusedSimpArgs false
set_option maxRecDepth 100000
set_option maxHeartbeats 4000000
namespace Go.Proofs.Ytgeakpldocfccaa
open Go Go.Mx Go.Proofs
def Q1h.M (o1 : Option Addr) (a1 a0 : Int) (R : RW) (w : World) : Prop :=
 bif decide (a1 < 0) then (
 R (.tuple #[.pointer none, .int .i64 1]) w) else (
 bif decide (a1 ≥ 8) then (
 R (.tuple #[.pointer none, .int .i64 1]) w) else (
 bif Option.isNone o1 then (
 R (.tuple #[.pointer none, .int .i64 23]) w) else (
 thenW (w.alloc (.cells #[.pointer o1, .int .i64 a1, .int .u64 a0, .slice none 0 0, .slice none 0 0] 108)) fun a2 =>
 R (.tuple #[.pointer (some (blk w.heap.size)), .int .i64 0]) a2)))

theorem Q1h.ok (o1 : Option Addr) (a1 a0 : Int) {R : RW} {w : World} (h : Q1h.M o1 a1 a0 R w) : Calls Try.prog 18 #[.pointer o1, .int .i64 a1, .int .u64 a0] w fun e w' => ∃ v, e = .returned v ∧ R v w' :=
  Q0i follows (H := []) (args := [.pointer o1, .int .i64 a1, .int .u64 a0]) (cast (by kernel_rfl) h)

def Q1h.N (o1 : Option Addr) (a0 a1 : Int) (R : RW) (w : World) : Prop :=
 (a0 < 0 →
 R (.tuple #[.pointer none, .int .i64 1]) w) ∧
 ((0 : Int) ≤ a0 →
 (a0 ≥ 8 →
 R (.tuple #[.pointer none, .int .i64 1]) w) ∧
 (a0 < 8 →
 (o1 = none →
 R (.tuple #[.pointer none, .int .i64 23]) w) ∧
 (o1 ≠ none →
 ∀ (a2 : World) (q8 : Nat), Ext no w a2 → Blk a2 q8 108 [.pointer o1, .int .i64 a0, .int .u64 a1, .slice none 0 0, .slice none 0 0] → w.heap.size ≤ q8 → q8 < a2.heap.size →
 R (.tuple #[.pointer (some (blk q8)), .int .i64 0]) a2)))

theorem Q1h.up (o1 : Option Addr) (a1 a0 : Int) {R : RW} {w : World} (h : Q1h.N o1 a1 a0 R w) : Q1h.M o1 a1 a0 R w := by
  unfold Q1h.M
  unfold Q1h.N at h
  refine bif_of (fun c4 => ?_) (fun c4 => ?_)
  ·have h := h.1 (of_decide_eq_true c4)
   exact h
  have h := h.2 (Int.not_lt.1 (of_decide_eq_false c4))
  refine bif_of (fun c5 => ?_) (fun c5 => ?_)
  ·have h := h.1 (of_decide_eq_true c5)
   exact h
  have h := h.2 (Int.not_le.1 (of_decide_eq_false c5))
  refine bif_of (fun c6 => ?_) (fun c6 => ?_)
  ·have h := h.1 (Q1y c6)
   exact h
  have h := h.2 (Q1w c6)
  refine Q01 fun a2 e7 => ?_
  have h := h a2 w.heap.size ((Ext.refl no w).x_alloc e7) (Blk.of_new e7) ((Ext.refl no w)).size (Q0w e7)
  exact h

theorem Q1h.go (o1 : Option Addr) (a1 a0 : Int) {R : RW} {w : World} (h : Q1h.N o1 a1 a0 R w) : Calls Try.prog 18 #[.pointer o1, .int .i64 a1, .int .u64 a0] w fun e w' => ∃ v, e = .returned v ∧ R v w' := Q1h.ok o1 a1 a0 (Q1h.up o1 a1 a0 h)
def Q0X.M (r1 : Option Addr) (a0 : Int) (R : RW) (w : World) : Prop :=
 bif Option.isNone r1 then (
 R (.tuple #[.int .u64 0, .int .i64 23]) w) else (
 bif decide (a0 < 0) then (
 R (.tuple #[.int .u64 0, .int .i64 2]) w) else (
 r1.elim False fun a3 =>
 ∃ (ab : Option Addr) (a6 ac : Nat), w.cell? (a3.add 3) = some (.slice ab a6 ac) ∧
 bif decide (a0 ≥ (a6 : Int)) then (
 R (.tuple #[.int .u64 0, .int .i64 2]) w) else (
 r1.elim False fun a5 =>
 ∃ (a8 : Option Addr) (a4 ad : Nat), w.cell? (a5.add 3) = some (.slice a8 a4 ad) ∧
 a8.elim False fun a7 =>
 0 ≤ (a0 : Int) ∧ (a0 : Int) < (a4 : Int) ∧
 ∃ (x8 : Int), w.cell? (a7.add (Int.toNat a0 * 1)) = some (.int .u64 x8) ∧
 bif x8 == 0 then (
 R (.tuple #[.int .u64 0, .int .i64 11]) w) else (
 r1.elim False fun a9 =>
 ∃ (a2 : Option Addr) (a1 aa : Nat), w.cell? (a9.add 3) = some (.slice a2 a1 aa) ∧
 a2.elim False fun af =>
 0 ≤ (a0 : Int) ∧ (a0 : Int) < (a1 : Int) ∧
 ∃ (ae : Int), w.cell? (af.add (Int.toNat a0 * 1)) = some (.int .u64 ae) ∧
 R (.tuple #[.int .u64 ae, .int .i64 0]) w))))

theorem Q0X.ok (r1 : Option Addr) (a0 : Int) {R : RW} {w : World} (h : Q0X.M r1 a0 R w) : Calls Try.prog 64 #[.pointer r1, .int .i64 a0] w fun e w' => ∃ v, e = .returned v ∧ R v w' :=
  Q0i follows (H := []) (args := [.pointer r1, .int .i64 a0]) (cast (by kernel_rfl) h)

def Q0X.N (r1 : Option Addr) (a0 : Int) (R : RW) (w : World) : Prop :=
 (r1 = none →
 R (.tuple #[.int .u64 0, .int .i64 23]) w) ∧
 (r1 ≠ none →
 (a0 < 0 →
 R (.tuple #[.int .u64 0, .int .i64 2]) w) ∧
 ((0 : Int) ≤ a0 →
 ∃ a5 : Addr, r1 = some a5 ∧
 ∃ (aa : Option Addr) (a1 a9 : Nat), w.cell? (a5.add 3) = some (.slice aa a1 a9) ∧
 (a0 ≥ (a1 : Int) →
 R (.tuple #[.int .u64 0, .int .i64 2]) w) ∧
 (a0 < (a1 : Int) →
 ∃ (a6 : Option Addr) (a2 a8 : Nat), w.cell? (a5.add 3) = some (.slice a6 a2 a8) ∧
 ∃ ae : Addr, a6 = some ae ∧
 0 ≤ (a0 : Int) ∧ (a0 : Int) < (a2 : Int) ∧
 ∃ (ab : Int), w.cell? (ae.add (Int.toNat a0 * 1)) = some (.int .u64 ab) ∧
 (ab = 0 →
 R (.tuple #[.int .u64 0, .int .i64 11]) w) ∧
 (ab ≠ 0 →
 ∃ (a4 : Option Addr) (a3 a7 : Nat), w.cell? (a5.add 3) = some (.slice a4 a3 a7) ∧
 ∃ ac : Addr, a4 = some ac ∧
 0 ≤ (a0 : Int) ∧ (a0 : Int) < (a3 : Int) ∧
 ∃ (ad : Int), w.cell? (ac.add (Int.toNat a0 * 1)) = some (.int .u64 ad) ∧
 R (.tuple #[.int .u64 ad, .int .i64 0]) w))))

theorem Q0X.up (r1 : Option Addr) (a0 : Int) {R : RW} {w : World} (h : Q0X.N r1 a0 R w) : Q0X.M r1 a0 R w := by
  unfold Q0X.M
  unfold Q0X.N at h
  refine bif_of (fun c3 => ?_) (fun c3 => ?_)
  ·have h := h.1 (Q1y c3)
   exact h
  have h := h.2 (Q1w c3)
  refine bif_of (fun c4 => ?_) (fun c4 => ?_)
  ·have h := h.1 (of_decide_eq_true c4)
   exact h
  have h := h.2 (Int.not_lt.1 (of_decide_eq_false c4))
  obtain ⟨a5, ai, h⟩ := h
  refine Q06 ai ?_
  obtain ⟨aa, a8, a9, an, h⟩ := h
  refine ⟨aa, a8, a9, an, ?_⟩
  refine bif_of (fun c8 => ?_) (fun c8 => ?_)
  ·have h := h.1 (of_decide_eq_true c8)
   exact h
  have h := h.2 (Int.not_le.1 (of_decide_eq_false c8))
  refine Q06 ai ?_
  obtain ⟨a2, a4, a1, al, h⟩ := h
  refine ⟨a2, a4, a1, al, ?_⟩
  obtain ⟨ao, ae, h⟩ := h
  refine Q06 ae ?_
  obtain ⟨ac, ad, h⟩ := h
  refine ⟨ac, ad, ?_⟩
  obtain ⟨am, aj, h⟩ := h
  refine ⟨am, aj, ?_⟩
  refine bif_of (fun ag => ?_) (fun ag => ?_)
  ·have h := h.1 (beq_t ag)
   exact h
  have h := h.2 (beq_f ag)
  refine Q06 ai ?_
  obtain ⟨a3, a6, a7, ah, h⟩ := h
  refine ⟨a3, a6, a7, ah, ?_⟩
  obtain ⟨ap, af, h⟩ := h
  refine Q06 af ?_
  obtain ⟨ac, ad, h⟩ := h
  refine ⟨ac, ad, ?_⟩
  obtain ⟨ak, ab, h⟩ := h
  refine ⟨ak, ab, ?_⟩
  exact h

theorem Q0X.go (r1 : Option Addr) (a0 : Int) {R : RW} {w : World} (h : Q0X.N r1 a0 R w) : Calls Try.prog 64 #[.pointer r1, .int .i64 a0] w fun e w' => ∃ v, e = .returned v ∧ R v w' := Q0X.ok r1 a0 (Q0X.up r1 a0 h)
theorem Q0X.run (r1 : Option Addr) (a0 : Int) {V : Value} {Q : World → Prop} {w : World} (h : Q0X.N r1 a0 (fun v w' => v = V ∧ Q w') w) : Calls Try.prog 64 #[.pointer r1, .int .i64 a0] w (Ret V Q) := (Q0X.go r1 a0 h).mono fun e w' ⟨v, he, hv, hq⟩ => ⟨by rw [he, hv], hq⟩

def Q19.M (a3 : Int) (R : RW) (w : World) : Prop :=
 Calls Try.prog 74 #[.slice none 0 0, .int .u64 (IntKind.u64.wrap a3)] w fun a5 a4 => ∃ (a2 : Option Addr) (a1 a0 : Nat), a5 = .returned (.slice a2 a1 a0) ∧
 R (.slice a2 a1 a0) a4

theorem Q19.ok (a0 : Int) {R : RW} {w : World} (h : Q19.M a0 R w) : Calls Try.prog 42 #[.int .i64 a0] w fun e w' => ∃ v, e = .returned v ∧ R v w' :=
  Q0i follows (H := []) (args := [.int .i64 a0]) (cast (by kernel_rfl) h)

def Q19.N (a3 : Int) (R : RW) (w : World) : Prop :=
 Calls Try.prog 74 #[.slice none 0 0, .int .u64 (IntKind.u64.wrap a3)] w fun a5 a4 => ∃ (a2 : Option Addr) (a1 a0 : Nat), a5 = .returned (.slice a2 a1 a0) ∧
 R (.slice a2 a1 a0) a4

theorem Q19.up (a0 : Int) {R : RW} {w : World} (h : Q19.N a0 R w) : Q19.M a0 R w := by
  unfold Q19.M
  unfold Q19.N at h
  refine h.mono fun a5 a4 h => ?_
  obtain ⟨a3, a2, a1, he, h⟩ := h
  refine ⟨a3, a2, a1, he, ?_⟩
  exact h

theorem Q19.go (a0 : Int) {R : RW} {w : World} (h : Q19.N a0 R w) : Calls Try.prog 42 #[.int .i64 a0] w fun e w' => ∃ v, e = .returned v ∧ R v w' := Q19.ok a0 (Q19.up a0 h)
abbrev Q12.J1 (j8 : Option Addr) (j9 a8 : Nat) (a6 : Int) (I0 : Nat → List Value → World → Prop) (m5 : Nat) (n1 : Int) (R : RW) (a4 : World) : Prop :=
 0 ≤ ((IntKind.i64.wrap ((56 : Int) - (IntKind.i64.wrap ((8 : Int) * a6)))) : Int) ∧
 thenW (a4.alloc (.cells #[.int .u8 (IntKind.u8.wrap (Int.fdiv n1 (2 ^ (min (Int.toNat (IntKind.i64.wrap ((56 : Int) - (IntKind.i64.wrap ((8 : Int) * a6))))) (IntKind.bits .u64)))))] 5)) fun a5 =>
 ∃ (a1 : Option Addr) (a2 a0 : Nat) (a3 : World), (Builtin.append_ #[25, 25] 25 #[.slice j8 j9 a8, .slice (some (blk a4.heap.size)) 1 1]).run Try.prog a5 = .ok (.slice a1 a2 a0) a3 ∧
 ∃ a7, a7 < m5 ∧ I0 a7 [.slice a1 a2 a0, .int .i64 (IntKind.i64.wrap (a6 + 1))] a3

def Q12.M (n1 : Int) (R : RW) (w : World) : Prop :=
 ∃ (I0 : Nat → List Value → World → Prop) (m4 : Nat), I0 m4 [.slice none 0 0, .int .i64 0] w ∧ ∀ (m5 : Nat) (a1 : World) (a3 : Option Addr) (a2 a0 : Nat) (t3 : Int), I0 m5 [.slice a3 a2 a0, .int .i64 t3] a1 →
 bif decide (t3 < 8) then (
 Q12.J1 a3 a2 a0 t3 I0 m5 n1 R a1) else (
 R (.slice a3 a2 a0) a1)

theorem Q12.ok (n1 : Int) {R : RW} {w : World} (h : Q12.M n1 R w) : Calls Try.prog 43 #[.int .u64 n1] w fun e w' => ∃ v, e = .returned v ∧ R v w' :=
  Q0i follows (H := [(0, [0], [(2, (.one .slice)), (4, (.one (.int .i64)))])]) (args := [.int .u64 n1]) (cast (by kernel_rfl) h)

def Q12.N (n1 : Int) (R : RW) (w : World) : Prop :=
 ∃ (I0 : Nat → List Value → World → Prop) (m4 : Nat), I0 m4 [.slice none 0 0, .int .i64 0] w ∧ ∀ (m5 : Nat) (a5 : World) (a7 : Option Addr) (a8 a6 : Nat) (t3 : Int), I0 m5 [.slice a7 a8 a6, .int .i64 t3] a5 →
 (t3 < 8 →
 (-9223372036854775808 : Int) ≤ ((8 : Int) * t3) ∧ ((8 : Int) * t3) < 9223372036854775808 ∧
 (-9223372036854775808 : Int) ≤ ((56 : Int) - ((8 : Int) * t3)) ∧ ((56 : Int) - ((8 : Int) * t3)) < 9223372036854775808 ∧
 0 ≤ (((56 : Int) - ((8 : Int) * t3)) : Int) ∧
 ∀ (a4 : World) (q9 : Nat), Ext no a5 a4 → Blk a4 q9 5 [.int .u8 (IntKind.u8.wrap (Int.fdiv n1 (2 ^ (min (Int.toNat ((56 : Int) - ((8 : Int) * t3))) (IntKind.bits .u64)))))] → a5.heap.size ≤ q9 → q9 < a4.heap.size →
 ∃ (a0 : Option Addr) (a2 a3 : Nat) (a1 : World), (Builtin.append_ #[25, 25] 25 #[.slice a7 a8 a6, .slice (some (blk q9)) 1 1]).run Try.prog a4 = .ok (.slice a0 a2 a3) a1 ∧
 (-9223372036854775808 : Int) ≤ (t3 + 1) ∧ (t3 + 1) < 9223372036854775808 ∧
 ∃ a9, a9 < m5 ∧ I0 a9 [.slice a0 a2 a3, .int .i64 (t3 + 1)] a1) ∧
 ((8 : Int) ≤ t3 →
 R (.slice a7 a8 a6) a5)

theorem Q12.up (n1 : Int) {R : RW} {w : World} (h : Q12.N n1 R w) : Q12.M n1 R w := by
  unfold Q12.M
  unfold Q12.N at h
  obtain ⟨I0, m4, h0, h⟩ := h
  refine ⟨I0, m4, h0, fun m5 a2 aa ab a9 t3 hI => ?_⟩
  have h := h m5 a2 aa ab a9 t3 hI
  refine bif_fo (fun c7 => ?_) (fun c7 => ?_)
  ·have h := h.2 (Int.not_lt.1 (of_decide_eq_false c7))
   exact h
  have h := h.1 (of_decide_eq_true c7)
  unfold Q12.J1
  obtain ⟨a1, a0, h⟩ := h
  try rw [w64 a1 a0]
  obtain ⟨a1, a0, h⟩ := h
  try rw [w64 a1 a0]
  obtain ⟨hp, h⟩ := h
  refine ⟨hp, ?_⟩
  refine Q01 fun a7 e8 => ?_
  have h := h a7 a2.heap.size ((Ext.refl no a2).x_alloc e8) (Blk.of_new e8) ((Ext.refl no a2)).size (Q0w e8)
  obtain ⟨a3, a5, a6, a4, hr, h⟩ := h
  refine ⟨a3, a5, a6, a4, hr, ?_⟩
  obtain ⟨a1, a0, h⟩ := h
  try rw [w64 a1 a0]
  obtain ⟨a8, hk, h⟩ := h
  exact ⟨a8, hk, h⟩

theorem Q12.go (n1 : Int) {R : RW} {w : World} (h : Q12.N n1 R w) : Calls Try.prog 43 #[.int .u64 n1] w fun e w' => ∃ v, e = .returned v ∧ R v w' := Q12.ok n1 (Q12.up n1 h)
abbrev Q0W.J1 (a5 : Int) (I0 : Nat → List Value → World → Prop) (m6 : Nat) (r1 : Option Addr) (R : RW) (ax : World) : Prop :=
 thenW (ax.drew) fun ai =>
 r1.elim False fun b8 =>
 ∃ (av : Option Addr), ai.cell? (b8.add 0) = some (.pointer av) ∧
 r1.elim False fun b6 =>
 ∃ (a3 : Option Addr) (a1 af : Nat), ai.cell? (b6.add 3) = some (.slice a3 a1 af) ∧
 a3.elim False fun b7 =>
 0 ≤ (a5 : Int) ∧ (a5 : Int) < (a1 : Int) ∧
 ∃ (b0 : Int), ai.cell? (b7.add (Int.toNat a5 * 1)) = some (.int .u64 b0) ∧
 r1.elim False fun ba =>
 ∃ (a4 : Option Addr) (a2 ac : Nat), ai.cell? (ba.add 4) = some (.slice a4 a2 ac) ∧
 a4.elim False fun b1 =>
 0 ≤ (a5 : Int) ∧ (a5 : Int) < (a2 : Int) ∧
 ∃ (ao : Option Addr) (aq ap : Nat), ai.cell? (b1.add (Int.toNat a5 * 1)) = some (.slice ao aq ap) ∧
 Calls Try.prog 42 #[.int .i64 a5] ai fun az ah => ∃ (a6 : Option Addr) (a7 a9 : Nat), az = .returned (.slice a6 a7 a9) ∧
 ah.cell? (b1.add (Int.toNat a5 * 1)) = some (.slice ao aq ap) ∧
 ah.cell? (ba.add 4) = some (.slice a4 a2 ac) ∧
 ah.cell? (b7.add (Int.toNat a5 * 1)) = some (.int .u64 b0) ∧
 ah.cell? (b6.add 3) = some (.slice a3 a1 af) ∧
 ah.cell? (b8.add 0) = some (.pointer av) ∧
 Calls Try.prog 31 #[.pointer av, .int .u64 b0, .slice a6 a7 a9, .slice ao aq ap] ah fun ay ar => ∃ (a8 : Option Addr) (a0 ak : Nat) (ae : Int), ay = .returned (.tuple #[.slice a8 a0 ak, .int .i64 ae]) ∧
 bif ae != 0 then (
 R (.tuple #[]) ar) else (
 bif (a0 : Int) != 8 then (
 R (.tuple #[]) ar) else (
 ∃ (I2 : Nat → List Value → World → Prop) (bd : Nat), I2 bd [.int .i64 0] ar ∧ ∀ (b9 : Nat) (an : World) (au : Int), I2 b9 [.int .i64 au] an →
 bif decide (au < (a0 : Int)) then (
 a8.elim False fun bg =>
 0 ≤ (au : Int) ∧ (au : Int) < (a0 : Int) ∧
 ∃ (bb : Int), an.cell? (bg.add (Int.toNat au * 1)) = some (.int .u8 bb) ∧
 thenW (an.drew) fun aj =>
 r1.elim False fun be =>
 ∃ (ab : Option Addr) (ag am : Nat), aj.cell? (be.add 3) = some (.slice ab ag am) ∧
 r1.elim False fun bc =>
 ∃ (ad : Option Addr) (aa al : Nat), aj.cell? (bc.add 3) = some (.slice ad aa al) ∧
 ad.elim False fun bf =>
 0 ≤ ((IntKind.i64.wrap (a5 - 1)) : Int) ∧ ((IntKind.i64.wrap (a5 - 1)) : Int) < (aa : Int) ∧
 ∃ (b5 : Int), aj.cell? (bf.add (Int.toNat (IntKind.i64.wrap (a5 - 1)) * 1)) = some (.int .u64 b5) ∧
 0 ≤ (8 : Int) ∧
 ab.elim False fun b2 =>
 0 ≤ ((IntKind.i64.wrap (a5 - 1)) : Int) ∧ ((IntKind.i64.wrap (a5 - 1)) : Int) < (ag : Int) ∧
 Q0d aj ((b2.add (Int.toNat (IntKind.i64.wrap (a5 - 1)) * 1)).add 0) ∧
 thenW (aj.setCell ((b2.add (Int.toNat (IntKind.i64.wrap (a5 - 1)) * 1)).add 0) (.int .u64 (IntKind.u64.wrap ((BitVec.ofInt (IntKind.bits .u64) (IntKind.u64.wrap (b5 * 2 ^ (min (Int.toNat 8) (IntKind.bits .u64)))) ||| BitVec.ofInt (IntKind.bits .u64) (IntKind.u64.wrap bb)).toNat)))) fun aw =>
 ∃ b3, b3 < b9 ∧ I2 b3 [.int .i64 (IntKind.i64.wrap (au + 1))] aw) else (
 ∃ b4, b4 < m6 ∧ I0 b4 [.int .i64 (IntKind.i64.wrap (a5 - 1))] an)))

def Q0W.M (r1 : Option Addr) (R : RW) (w : World) : Prop :=
 r1.elim False fun a2 =>
 ∃ (ac : Option Addr) (a5 aa : Nat), w.cell? (a2.add 3) = some (.slice ac a5 aa) ∧
 ∃ (I0 : Nat → List Value → World → Prop) (m5 : Nat), I0 m5 [.int .i64 (IntKind.i64.wrap ((a5 : Int) - 1))] w ∧ ∀ (m6 : Nat) (a7 : World) (a6 : Int), I0 m6 [.int .i64 a6] a7 →
 bif decide (a6 > 0) then (
 r1.elim False fun a8 =>
 ∃ (a3 : Option Addr) (a4 ab : Nat), a7.cell? (a8.add 3) = some (.slice a3 a4 ab) ∧
 a3.elim False fun af =>
 0 ≤ (a6 : Int) ∧ (a6 : Int) < (a4 : Int) ∧
 ∃ (ad : Int), a7.cell? (af.add (Int.toNat a6 * 1)) = some (.int .u64 ad) ∧
 bif ad != 0 then (
 r1.elim False fun ah =>
 ∃ (a0 : Option Addr) (a1 a9 : Nat), a7.cell? (ah.add 3) = some (.slice a0 a1 a9) ∧
 a0.elim False fun ag =>
 0 ≤ ((IntKind.i64.wrap (a6 - 1)) : Int) ∧ ((IntKind.i64.wrap (a6 - 1)) : Int) < (a1 : Int) ∧
 ∃ (ae : Int), a7.cell? (ag.add (Int.toNat (IntKind.i64.wrap (a6 - 1)) * 1)) = some (.int .u64 ae) ∧
 bif ae == 0 then (
 Q0W.J1 a6 I0 m6 r1 R a7) else (
 R (.tuple #[]) a7)) else (
 R (.tuple #[]) a7)) else (
 R (.tuple #[]) a7)

theorem Q0W.ok (r1 : Option Addr) {R : RW} {w : World} (h : Q0W.M r1 R w) : Calls Try.prog 61 #[.pointer r1] w fun e w' => ∃ v, e = .returned v ∧ R v w' :=
  Q0i follows (H := [(0, [0], [(2, (.one (.int .i64)))]), (2, [0, 2, 69, 70], [(71, (.one (.int .i64)))])]) (args := [.pointer r1]) (cast (by kernel_rfl) h)

def Q0W.N (r1 : Option Addr) (R : RW) (w : World) : Prop :=
 ∃ a2 : Addr, r1 = some a2 ∧
 ∃ (b0 : Option Addr) (a4 b4 : Nat), w.cell? (a2.add 3) = some (.slice b0 a4 b4) ∧
 (-9223372036854775808 : Int) ≤ ((a4 : Int) - 1) ∧ ((a4 : Int) - 1) < 9223372036854775808 ∧
 ∃ (I0 : Nat → List Value → World → Prop) (m6 : Nat), I0 m6 [.int .i64 ((a4 : Int) - 1)] w ∧ ∀ (m7 : Nat) (ae : World) (a1 : Int), I0 m7 [.int .i64 a1] ae →
 (a1 > 0 →
 ∃ (al : Option Addr) (ao av : Nat), ae.cell? (a2.add 3) = some (.slice al ao av) ∧
 ∃ bh : Addr, al = some bh ∧
 0 ≤ (a1 : Int) ∧ (a1 : Int) < (ao : Int) ∧
 ∃ (b9 : Int), ae.cell? (bh.add (Int.toNat a1 * 1)) = some (.int .u64 b9) ∧
 (b9 ≠ 0 →
 ∃ (ah : Option Addr) (ai aw : Nat), ae.cell? (a2.add 3) = some (.slice ah ai aw) ∧
 (-9223372036854775808 : Int) ≤ (a1 - 1) ∧ (a1 - 1) < 9223372036854775808 ∧
 ∃ bo : Addr, ah = some bo ∧
 0 ≤ ((a1 - 1) : Int) ∧ ((a1 - 1) : Int) < (ai : Int) ∧
 ∃ (b7 : Int), ae.cell? (bo.add (Int.toNat (a1 - 1) * 1)) = some (.int .u64 b7) ∧
 (b7 = 0 →
 ∃ (ba : Option Addr), ae.cell? (a2.add 0) = some (.pointer ba) ∧
 ∃ (a7 : Option Addr) (a8 ag : Nat), ae.cell? (a2.add 3) = some (.slice a7 a8 ag) ∧
 ∃ b8 : Addr, a7 = some b8 ∧
 0 ≤ (a1 : Int) ∧ (a1 : Int) < (a8 : Int) ∧
 ∃ (bf : Int), ae.cell? (b8.add (Int.toNat a1 * 1)) = some (.int .u64 bf) ∧
 ∃ (a6 : Option Addr) (a5 an : Nat), ae.cell? (a2.add 4) = some (.slice a6 a5 an) ∧
 ∃ bc : Addr, a6 = some bc ∧
 0 ≤ (a1 : Int) ∧ (a1 : Int) < (a5 : Int) ∧
 ∃ (az : Option Addr) (b3 b1 : Nat), ae.cell? (bc.add (Int.toNat a1 * 1)) = some (.slice az b3 b1) ∧
 ∀ (b5 : World), Ext no ae b5 →
 Calls Try.prog 42 #[.int .i64 a1] b5 fun bb ap => ∃ (a9 : Option Addr) (aa ab : Nat), bb = .returned (.slice a9 aa ab) ∧
 ap.cell? (bc.add (Int.toNat a1 * 1)) = some (.slice az b3 b1) ∧
 ap.cell? (a2.add 4) = some (.slice a6 a5 an) ∧
 ap.cell? (b8.add (Int.toNat a1 * 1)) = some (.int .u64 bf) ∧
 ap.cell? (a2.add 3) = some (.slice a7 a8 ag) ∧
 ap.cell? (a2.add 0) = some (.pointer ba) ∧
 Calls Try.prog 31 #[.pointer ba, .int .u64 bf, .slice a9 aa ab, .slice az b3 b1] ap fun b6 b2 => ∃ (ac : Option Addr) (a0 aq : Nat) (a3 : Int), b6 = .returned (.tuple #[.slice ac a0 aq, .int .i64 a3]) ∧
 (a3 ≠ 0 →
 R (.tuple #[]) b2) ∧
 (a3 = 0 →
 ((a0 : Int) ≠ 8 →
 R (.tuple #[]) b2) ∧
 ((a0 : Int) = 8 →
 ∃ (I2 : Nat → List Value → World → Prop) (bp : Nat), I2 bp [.int .i64 0] b2 ∧ ∀ (bi : Nat) (ad : World) (ar : Int), I2 bi [.int .i64 ar] ad →
 (ar < (a0 : Int) →
 ∃ bj : Addr, ac = some bj ∧
 0 ≤ (ar : Int) ∧ (ar : Int) < (a0 : Int) ∧
 ∃ (bk : Int), ad.cell? (bj.add (Int.toNat ar * 1)) = some (.int .u8 bk) ∧
 ∃ (ak : Option Addr) (af ax : Nat), ad.cell? (a2.add 3) = some (.slice ak af ax) ∧
 (-9223372036854775808 : Int) ≤ (a1 - 1) ∧ (a1 - 1) < 9223372036854775808 ∧
 ∃ (aj : Option Addr) (am au : Nat), ad.cell? (a2.add 3) = some (.slice aj am au) ∧
 (-9223372036854775808 : Int) ≤ (a1 - 1) ∧ (a1 - 1) < 9223372036854775808 ∧
 ∃ bn : Addr, aj = some bn ∧
 0 ≤ ((a1 - 1) : Int) ∧ ((a1 - 1) : Int) < (am : Int) ∧
 ∃ (bm : Int), ad.cell? (bn.add (Int.toNat (a1 - 1) * 1)) = some (.int .u64 bm) ∧
 ∃ be : Addr, ak = some be ∧
 0 ≤ ((a1 - 1) : Int) ∧ ((a1 - 1) : Int) < (af : Int) ∧
 ∀ (ay : World), Ext no ad ay →
 Q0d ay ((be.add (Int.toNat (a1 - 1) * 1)).add 0) ∧
 thenW (ay.setCell ((be.add (Int.toNat (a1 - 1) * 1)).add 0) (.int .u64 (IntKind.u64.wrap ((BitVec.ofInt (IntKind.bits .u64) (IntKind.u64.wrap (bm * 256)) ||| BitVec.ofInt (IntKind.bits .u64) (IntKind.u64.wrap bk)).toNat)))) fun bd =>
 (-9223372036854775808 : Int) ≤ (ar + 1) ∧ (ar + 1) < 9223372036854775808 ∧
 ∃ bg, bg < bi ∧ I2 bg [.int .i64 (ar + 1)] bd) ∧
 ((a0 : Int) ≤ ar →
 (-9223372036854775808 : Int) ≤ (a1 - 1) ∧ (a1 - 1) < 9223372036854775808 ∧
 ∃ bl, bl < m7 ∧ I0 bl [.int .i64 (a1 - 1)] ad)))) ∧
 (b7 ≠ 0 →
 R (.tuple #[]) ae)) ∧
 (b9 = 0 →
 R (.tuple #[]) ae)) ∧
 (a1 ≤ 0 →
 R (.tuple #[]) ae)

theorem Q0W.up (r1 : Option Addr) {R : RW} {w : World} (h : Q0W.N r1 R w) : Q0W.M r1 R w := by
  unfold Q0W.M
  unfold Q0W.N at h
  obtain ⟨a2, ay, h⟩ := h
  refine Q06 ay ?_
  obtain ⟨az, b0, b1, cl, h⟩ := h
  refine ⟨az, b0, b1, cl, ?_⟩
  obtain ⟨a9, aa, h⟩ := h
  try rw [w64 a9 aa]
  obtain ⟨I0, m6, h0, h⟩ := h
  refine ⟨I0, m6, h0, fun m7 c3 cg hI => ?_⟩
  have h := h m7 c3 cg hI
  refine bif_fo (fun c9 => ?_) (fun c9 => ?_)
  ·have h := h.2 (Int.not_lt.1 (of_decide_eq_false c9))
   exact h
  have h := h.1 (of_decide_eq_true c9)
  refine Q06 ay ?_
  obtain ⟨ag, ap, ae, c0, h⟩ := h
  refine ⟨ag, ap, ae, c0, ?_⟩
  obtain ⟨cq, b7, h⟩ := h
  refine Q06 b7 ?_
  obtain ⟨a1, a0, h⟩ := h
  refine ⟨a1, a0, ?_⟩
  obtain ⟨cc, b6, h⟩ := h
  refine ⟨cc, b6, ?_⟩
  refine bif_fo (fun bj => ?_) (fun bj => ?_)
  ·have h := h.2 (bne_f bj)
   exact h
  have h := h.1 (bne_t bj)
  refine Q06 ay ?_
  obtain ⟨ad, av, aw, b8, h⟩ := h
  refine ⟨ad, av, aw, b8, ?_⟩
  obtain ⟨a9, aa, h⟩ := h
  try rw [w64 a9 aa]
  obtain ⟨cs, b5, h⟩ := h
  refine Q06 b5 ?_
  obtain ⟨a1, a0, h⟩ := h
  refine ⟨a1, a0, ?_⟩
  obtain ⟨ca, bn, h⟩ := h
  refine ⟨ca, bn, ?_⟩
  refine bif_fo (fun bq => ?_) (fun bq => ?_)
  ·have h := h.2 (beq_f bq)
   exact h
  have h := h.1 (beq_t bq)
  unfold Q0W.J1
  refine Q01 fun bp c8 => ?_
  have a3 := (Ext.refl no c3).x_drew c8
  refine Q06 ay ?_
  obtain ⟨ce, bf, h⟩ := h
  refine ⟨ce, (a3).cell bf id, ?_⟩
  refine Q06 ay ?_
  obtain ⟨ai, ao, ac, bk, h⟩ := h
  refine ⟨ai, ao, ac, (a3).cell bk id, ?_⟩
  obtain ⟨cr, bu, h⟩ := h
  refine Q06 bu ?_
  obtain ⟨a1, a0, h⟩ := h
  refine ⟨a1, a0, ?_⟩
  obtain ⟨ci, b4, h⟩ := h
  refine ⟨ci, (a3).cell b4 id, ?_⟩
  refine Q06 ay ?_
  obtain ⟨ax, am, au, bl, h⟩ := h
  refine ⟨ax, am, au, (a3).cell bl id, ?_⟩
  obtain ⟨cu, bo, h⟩ := h
  refine Q06 bo ?_
  obtain ⟨a1, a0, h⟩ := h
  refine ⟨a1, a0, ?_⟩
  obtain ⟨bv, b9, bs, bx, h⟩ := h
  refine ⟨bv, b9, bs, (a3).cell bx id, ?_⟩
  have h := h bp a3
  refine h.mono fun cm co h => ?_
  obtain ⟨a4, a5, a6, he, h⟩ := h
  refine ⟨a4, a5, a6, he, ?_⟩
  obtain ⟨bi, bz, bw, c2, bd, h⟩ := h
  refine ⟨bi, bz, bw, c2, bd, ?_⟩
  refine h.mono fun ck c5 h => ?_
  obtain ⟨ab, a8, a7, aj, he, h⟩ := h
  refine ⟨ab, a8, a7, aj, he, ?_⟩
  refine bif_of (fun bc => ?_) (fun bc => ?_)
  ·have h := h.1 (bne_t bc)
   exact h
  have h := h.2 (bne_f bc)
  refine bif_of (fun bt => ?_) (fun bt => ?_)
  ·have h := h.1 (bne_t bt)
   exact h
  have h := h.2 (bne_f bt)
  obtain ⟨I2, ch, h0, h⟩ := h
  refine ⟨I2, ch, h0, fun c4 b2 cb hI => ?_⟩
  have h := h c4 b2 cb hI
  refine bif_fo (fun ba => ?_) (fun ba => ?_)
  ·have h := h.2 (Int.not_lt.1 (of_decide_eq_false ba))
   obtain ⟨a9, aa, h⟩ := h
   try rw [w64 a9 aa]
   obtain ⟨cf, hk, h⟩ := h
   exact ⟨cf, hk, h⟩
  have h := h.1 (of_decide_eq_true ba)
  obtain ⟨ct, bh, h⟩ := h
  refine Q06 bh ?_
  obtain ⟨a1, a0, h⟩ := h
  refine ⟨a1, a0, ?_⟩
  obtain ⟨cd, bm, h⟩ := h
  refine ⟨cd, bm, ?_⟩
  refine Q01 fun bg cp => ?_
  have ah := (Ext.refl no b2).x_drew cp
  refine Q06 ay ?_
  obtain ⟨af, al, ar, c1, h⟩ := h
  refine ⟨af, al, ar, (ah).cell c1 id, ?_⟩
  obtain ⟨a9, aa, h⟩ := h
  try rw [w64 a9 aa]
  refine Q06 ay ?_
  obtain ⟨aq, an, ak, bb, h⟩ := h
  refine ⟨aq, an, ak, (ah).cell bb id, ?_⟩
  obtain ⟨a9, aa, h⟩ := h
  try rw [w64 a9 aa]
  obtain ⟨cw, br, h⟩ := h
  refine Q06 br ?_
  obtain ⟨a1, a0, h⟩ := h
  refine ⟨a1, a0, ?_⟩
  obtain ⟨c6, be, h⟩ := h
  refine ⟨c6, (ah).cell be id, ?_⟩
  refine ⟨by decide, ?_⟩
  try rw [show (2 ^ (min (Int.toNat 8) (IntKind.bits .u64)) : Int) = 256 from rfl]
  obtain ⟨cv, b3, h⟩ := h
  refine Q06 b3 ?_
  obtain ⟨a1, a0, h⟩ := h
  refine ⟨a1, a0, ?_⟩
  have h := h bg ah
  obtain ⟨hcs, h⟩ := h
  refine ⟨hcs, Q01 fun c7 cn => ?_⟩
  replace h := Q1c h cn
  obtain ⟨a9, aa, h⟩ := h
  try rw [w64 a9 aa]
  obtain ⟨cj, hk, h⟩ := h
  exact ⟨cj, hk, h⟩

theorem Q0W.go (r1 : Option Addr) {R : RW} {w : World} (h : Q0W.N r1 R w) : Calls Try.prog 61 #[.pointer r1] w fun e w' => ∃ v, e = .returned v ∧ R v w' := Q0W.ok r1 (Q0W.up r1 h)
def Q0I.M (a0 : Int) (a6 : Option Addr) (a5 a7 : Nat) (a4 : Addr) (R : RW) (w : World) : Prop :=
 thenW (w.alloc (.cells #[.int .i64 a0, .slice a6 a5 a7] 115)) fun a9 =>
 thenW (a9.drew) fun a3 =>
 ∃ (a1 : Int), a3.cell? ((blk w.heap.size).add 0) = some (.int .i64 a1) ∧
 ∃ (x7 : Option Addr), a3.cell? a4 = some (.pointer x7) ∧
 x7.elim False fun a8 =>
 ∃ (a2 : Int), a3.cell? (a8.add 1) = some (.int .i64 a2) ∧
 R (.bool (a1 == a2)) a3

theorem Q0I.ok (a0 : Int) (a3 : Option Addr) (a2 a4 : Nat) (a1 : Addr) {R : RW} {w : World} (h : Q0I.M a0 a3 a2 a4 a1 R w) : Calls Try.prog 57 #[.agg #[.int .i64 a0, .slice a3 a2 a4], .pointer (some a1)] w fun e w' => ∃ v, e = .returned v ∧ R v w' :=
  Q0i follows (H := []) (args := [.agg #[.int .i64 a0, .slice a3 a2 a4], .pointer (some a1)]) (cast (by kernel_rfl) h)

def Q0I.N (a1 : Int) (a5 : Option Addr) (a4 a6 : Nat) (a2 : Addr) (R : RW) (w : World) : Prop :=
 ∃ (x7 : Option Addr), w.cell? a2 = some (.pointer x7) ∧
 ∃ a8 : Addr, x7 = some a8 ∧
 ∃ (a0 : Int), w.cell? (a8.add 1) = some (.int .i64 a0) ∧
 ∀ (a3 : World), Ext no w a3 →
 R (.bool (a1 == a0)) a3

theorem Q0I.up (a0 : Int) (a4 : Option Addr) (a3 a5 : Nat) (a2 : Addr) {R : RW} {w : World} (h : Q0I.N a0 a4 a3 a5 a2 R w) : Q0I.M a0 a4 a3 a5 a2 R w := by
  unfold Q0I.M
  unfold Q0I.N at h
  refine Q01 fun af e4 => ?_
  have a6 := Blk.of_new e4
  have ae := ((Ext.refl no w)).size
  have ab := (Ext.refl no w).x_alloc e4
  refine Q01 fun ac e5 => ?_
  have a7 := ab.x_drew e5
  have a6 := a6.x_drew e5
  refine ⟨a0, a6.celli 0 rfl rfl, ?_⟩
  obtain ⟨x7, ad, h⟩ := h
  refine ⟨x7, (a7).cell ad id, ?_⟩
  obtain ⟨a8, a9, h⟩ := h
  refine Q06 a9 ?_
  obtain ⟨a1, aa, h⟩ := h
  refine ⟨a1, (a7).cell aa id, ?_⟩
  have h := h ac a7
  exact h

theorem Q0I.go (a0 : Int) (a3 : Option Addr) (a2 a4 : Nat) (a1 : Addr) {R : RW} {w : World} (h : Q0I.N a0 a3 a2 a4 a1 R w) : Calls Try.prog 57 #[.agg #[.int .i64 a0, .slice a3 a2 a4], .pointer (some a1)] w fun e w' => ∃ v, e = .returned v ∧ R v w' := Q0I.ok a0 a3 a2 a4 a1 (Q0I.up a0 a3 a2 a4 a1 h)
theorem Q0I.run (a0 : Int) (a3 : Option Addr) (a2 a4 : Nat) (a1 : Addr) {V : Value} {Q : World → Prop} {w : World} (h : Q0I.N a0 a3 a2 a4 a1 (fun v w' => v = V ∧ Q w') w) : Calls Try.prog 57 #[.agg #[.int .i64 a0, .slice a3 a2 a4], .pointer (some a1)] w (Ret V Q) := (Q0I.go a0 a3 a2 a4 a1 h).mono fun e w' ⟨v, he, hv, hq⟩ => ⟨by rw [he, hv], hq⟩

def Q07.M (ag : Option Addr) (af ah a9 : Nat) (ae ac : Array Value) (R : RW) (w : World) : Prop :=
 ∃ (I0 : Nat → List Value → World → Prop) (m4 : Nat), I0 m4 [.int .i64 0] w ∧ ∀ (m5 : Nat) (a5 : World) (t3 : Int), I0 m5 [.int .i64 t3] a5 →
 bif decide (t3 < (af : Int)) then (
 ag.elim False fun a7 =>
 0 ≤ (t3 : Int) ∧ (t3 : Int) < (af : Int) ∧
 ∃ (a0 : Int) (a3 : Option Addr) (a4 a1 : Nat), cellsAt a5 (a7.add (Int.toNat t3 * 2)) [.int .i64 a0, .slice a3 a4 a1] 0 ∧
 bif enters Try.prog a9 then Calls Try.prog a9 (ae.toList ++ ([.agg #[.int .i64 a0, .slice a3 a4 a1]] : List Value) ++ ac.toList).toArray a5 (fun aa a8 => ∃ (a6 : Bool), aa = .returned (.bool a6) ∧
 bif a6 then (
 R (.int .i64 t3) a8) else (
 ∃ ab, ab < m5 ∧ I0 ab [.int .i64 (IntKind.i64.wrap (t3 + 1))] a8)) else (∃ (a6 : Bool) (a2 : World), (Q1j a9 (ae.toList ++ ([.agg #[.int .i64 a0, .slice a3 a4 a1]] : List Value) ++ ac.toList).toArray).run Try.prog a5 = .ok (.bool a6) a2 ∧
 bif a6 then (
 R (.int .i64 t3) a2) else (
 ∃ ad, ad < m5 ∧ I0 ad [.int .i64 (IntKind.i64.wrap (t3 + 1))] a2))) else (
 R (.int .i64 (-1)) a5)

theorem Q07.ok (a4 : Option Addr) (a3 a5 a1 : Nat) (a2 a0 : Array Value) {R : RW} {w : World} (h : Q07.M a4 a3 a5 a1 a2 a0 R w) : Calls Try.prog 58 #[.slice a4 a3 a5, .func (.func a1) a2 a0] w fun e w' => ∃ v, e = .returned v ∧ R v w' :=
  Q0i follows (H := [(0, [0, 1, 7], [(8, (.one (.int .i64)))])]) (args := [.slice a4 a3 a5, .func (.func a1) a2 a0]) (cast (by kernel_rfl) h)

def Q07.N (ae : Option Addr) (a9 af aa : Nat) (ad ac : Array Value) (R : RW) (w : World) : Prop :=
 ∃ (I0 : Nat → List Value → World → Prop) (m4 : Nat), I0 m4 [.int .i64 0] w ∧ ∀ (m5 : Nat) (a5 : World) (t3 : Int), I0 m5 [.int .i64 t3] a5 →
 (t3 < (a9 : Int) →
 ∃ a8 : Addr, ae = some a8 ∧
 0 ≤ (t3 : Int) ∧ (t3 : Int) < (a9 : Int) ∧
 ∃ (a0 : Int) (a2 : Option Addr) (a3 a1 : Nat), cellsAt a5 (a8.add (Int.toNat t3 * 2)) [.int .i64 a0, .slice a2 a3 a1] 0 ∧
 enters Try.prog aa = true ∧ Calls Try.prog aa (ad.toList ++ ([.agg #[.int .i64 a0, .slice a2 a3 a1]] : List Value) ++ ac.toList).toArray a5 (fun a7 a4 => ∃ (a6 : Bool), a7 = .returned (.bool a6) ∧
 (a6 = true →
 R (.int .i64 t3) a4) ∧
 (a6 = false →
 (-9223372036854775808 : Int) ≤ (t3 + 1) ∧ (t3 + 1) < 9223372036854775808 ∧
 ∃ ab, ab < m5 ∧ I0 ab [.int .i64 (t3 + 1)] a4))) ∧
 ((a9 : Int) ≤ t3 →
 R (.int .i64 (-1)) a5)

theorem Q07.up (a9 : Option Addr) (ab aa a7 : Nat) (a5 a6 : Array Value) {R : RW} {w : World} (h : Q07.N a9 ab aa a7 a5 a6 R w) : Q07.M a9 ab aa a7 a5 a6 R w := by
  unfold Q07.M
  unfold Q07.N at h
  obtain ⟨I0, m4, h0, h⟩ := h
  refine ⟨I0, m4, h0, fun m5 ah t3 hI => ?_⟩
  have h := h m5 ah t3 hI
  refine bif_fo (fun c7 => ?_) (fun c7 => ?_)
  ·have h := h.2 (Int.not_lt.1 (of_decide_eq_false c7))
   exact h
  have h := h.1 (of_decide_eq_true c7)
  obtain ⟨a8, af, h⟩ := h
  refine Q06 af ?_
  obtain ⟨am, ae, h⟩ := h
  refine ⟨am, ae, ?_⟩
  obtain ⟨a0, a2, a3, a1, ag, h⟩ := h
  refine ⟨a0, a2, a3, a1, ag, ?_⟩
  obtain ⟨hen, h⟩ := h
  refine bif_tt hen ?_
  refine h.mono fun aj ak h => ?_
  obtain ⟨ai, he, h⟩ := h
  refine ⟨ai, he, ?_⟩
  refine bif_of (fun a4 => ?_) (fun a4 => ?_)
  ·have h := h.1 a4
   exact h
  have h := h.2 a4
  obtain ⟨ad, al, h⟩ := h
  try rw [w64 ad al]
  obtain ⟨ac, hk, h⟩ := h
  exact ⟨ac, hk, h⟩

theorem Q07.go (a4 : Option Addr) (a3 a5 a1 : Nat) (a2 a0 : Array Value) {R : RW} {w : World} (h : Q07.N a4 a3 a5 a1 a2 a0 R w) : Calls Try.prog 58 #[.slice a4 a3 a5, .func (.func a1) a2 a0] w fun e w' => ∃ v, e = .returned v ∧ R v w' := Q07.ok a4 a3 a5 a1 a2 a0 (Q07.up a4 a3 a5 a1 a2 a0 h)
theorem Q07.run (a4 : Option Addr) (a3 a5 a1 : Nat) (a2 a0 : Array Value) {V : Value} {Q : World → Prop} {w : World} (h : Q07.N a4 a3 a5 a1 a2 a0 (fun v w' => v = V ∧ Q w') w) : Calls Try.prog 58 #[.slice a4 a3 a5, .func (.func a1) a2 a0] w (Ret V Q) := (Q07.go a4 a3 a5 a1 a2 a0 h).mono fun e w' ⟨v, he, hv, hq⟩ => ⟨by rw [he, hv], hq⟩

abbrev Q0l.J1 (ar : Int) (au a6 : Addr) (R : RW) (ap : World) : Prop :=
 thenW (ap.drew) fun a7 =>
 ∃ (ae : Option Addr), a7.cell? a6 = some (.pointer ae) ∧
 ∃ (af : Option Addr), a7.cell? a6 = some (.pointer af) ∧
 af.elim False fun ak =>
 ∃ (a0 : Option Addr) (a1 a2 : Nat), a7.cell? (ak.add 4) = some (.slice a0 a1 a2) ∧
 ∃ (a9 : Option Addr) (ad aa : Nat), a7.cell? (au.add 5) = some (.slice a9 ad aa) ∧
 Calls Try.prog 60 #[.slice a9 ad aa] a7 fun aq a8 => ∃ (a5 : Option Addr) (a3 a4 : Nat), aq = .returned (.slice a5 a3 a4) ∧
 a8.cell? (ak.add 4) = some (.slice a0 a1 a2) ∧
 a8.cell? a6 = some (.pointer af) ∧
 a8.cell? a6 = some (.pointer ae) ∧
 thenW (a8.alloc (.cells #[.slice a5 a3 a4] 25)) fun ac =>
 ac.cell? (ak.add 4) = some (.slice a0 a1 a2) ∧
 ac.cell? a6 = some (.pointer af) ∧
 ac.cell? a6 = some (.pointer ae) ∧
 ∃ (aj : Option Addr) (ag ai : Nat) (ab : World), (Builtin.append_ #[59, 59] 59 #[.slice a0 a1 a2, .slice (some (blk a8.heap.size)) 1 1]).run Try.prog ac = .ok (.slice aj ag ai) ab ∧
 ab.cell? a6 = some (.pointer ae) ∧
 ae.elim False fun al =>
 Q0d ab ((al.add 4).add 0) ∧
 thenW (ab.setCell ((al.add 4).add 0) (.slice aj ag ai)) fun ah =>
 ∃ (an : Option Addr), ah.cell? a6 = some (.pointer an) ∧
 Calls Try.prog 61 #[.pointer an] ah fun ao am => ao = .returned (.tuple #[]) ∧
 R (.int .i64 ar) am

abbrev Q0l.J2 (ai ah : Int) (ag a6 : Addr) (R : RW) (ac : World) : Prop :=
 thenW (ac.drew) fun a3 =>
 ∃ (a7 : Option Addr), a3.cell? a6 = some (.pointer a7) ∧
 ∃ (ab : Option Addr), a3.cell? a6 = some (.pointer ab) ∧
 ab.elim False fun af =>
 ∃ (a2 : Option Addr) (a1 a0 : Nat), a3.cell? (af.add 3) = some (.slice a2 a1 a0) ∧
 thenW (a3.alloc (.cells #[.int .u64 ah] 36)) fun a4 =>
 a4.cell? (af.add 3) = some (.slice a2 a1 a0) ∧
 a4.cell? a6 = some (.pointer ab) ∧
 a4.cell? a6 = some (.pointer a7) ∧
 ∃ (a8 : Option Addr) (a9 aa : Nat) (a5 : World), (Builtin.append_ #[22, 22] 22 #[.slice a2 a1 a0, .slice (some (blk a3.heap.size)) 1 1]).run Try.prog a4 = .ok (.slice a8 a9 aa) a5 ∧
 a5.cell? a6 = some (.pointer a7) ∧
 a7.elim False fun ae =>
 Q0d a5 ((ae.add 3).add 0) ∧
 thenW (a5.setCell ((ae.add 3).add 0) (.slice a8 a9 aa)) fun ad =>
 Q0l.J1 ai ag a6 R ad

abbrev Q0l.J3 (ah ad : Addr) (R : RW) (ab : World) : Prop :=
 ∃ (a2 : Option Addr) (a8 a6 : Nat), ab.cell? (ah.add 4) = some (.slice a2 a8 a6) ∧
 Calls Try.prog 58 #[.slice a2 a8 a6, .func (.func 57) #[] #[.pointer (some ad)]] ab fun aj af => ∃ (a0 : Int), aj = .returned (.int .i64 a0) ∧
 bif decide (a0 ≥ 0) then (
 thenW (af.drew) fun a9 =>
 ∃ (an : Option Addr), a9.cell? ad = some (.pointer an) ∧
 an.elim False fun ao =>
 ∃ (am : Option Addr), a9.cell? (ao.add 0) = some (.pointer am) ∧
 ∃ (al : Option Addr), a9.cell? ad = some (.pointer al) ∧
 al.elim False fun ap =>
 ∃ (a5 : Int), a9.cell? (ap.add 2) = some (.int .u64 a5) ∧
 ∃ (a3 : Option Addr) (a4 aa : Nat), a9.cell? (ah.add 4) = some (.slice a3 a4 aa) ∧
 a3.elim False fun aq =>
 0 ≤ (a0 : Int) ∧ (a0 : Int) < (a4 : Int) ∧
 ∃ (ac : Option Addr) (ag ae : Nat), a9.cell? ((aq.add (Int.toNat a0 * 2)).add 1) = some (.slice ac ag ae) ∧
 Calls Try.prog 59 #[.pointer am, .int .u64 a5, .slice ac ag ae] a9 fun ak ai => ∃ (a7 a1 : Int), ak = .returned (.tuple #[.int .u64 a7, .int .i64 a1]) ∧
 Q0l.J2 a1 a7 ah ad R ai) else (
 Q0l.J2 11 0 ah ad R af)

def Q0l.M (r1 : Option Addr) (al aq ad ak : Int) (ae : Option Addr) (af ac : Nat) (am : Option Addr) (an ao : Nat) (R : RW) (w : World) : Prop :=
 thenW (w.alloc (.cells #[.pointer r1] 34)) fun ar =>
 thenW (ar.alloc (.cells #[.int .i64 al, .int .i64 aq, .int .u64 ad, .int .i64 ak, .slice ae af ac, .slice am an ao] 72)) fun ap =>
 ∃ (av : Option Addr), ap.cell? (blk w.heap.size) = some (.pointer av) ∧
 bif Option.isNone av then (
 R (.int .i64 23) ap) else (
 ∃ (ah : Int), ap.cell? ((blk ar.heap.size).add 0) = some (.int .i64 ah) ∧
 bif ah != 3 then (
 R (.int .i64 1) ap) else (
 ∃ (a5 ab a1 a4 : Int) (a3 : Option Addr) (a0 a2 : Nat) (a6 : Option Addr) (a9 a8 : Nat), cellsAt ap (blk ar.heap.size) [.int .i64 a5, .int .i64 ab, .int .u64 a1, .int .i64 a4, .slice a3 a0 a2, .slice a6 a9 a8] 0 ∧
 Calls Try.prog 50 #[.agg #[.int .i64 a5, .int .i64 ab, .int .u64 a1, .int .i64 a4, .slice a3 a0 a2, .slice a6 a9 a8]] ap fun au ag => ∃ (a7 : Bool), au = .returned (.bool a7) ∧
 bif !a7 then (
 R (.int .i64 1) ag) else (
 ∃ (aw : Option Addr), ag.cell? (blk w.heap.size) = some (.pointer aw) ∧
 aw.elim False fun ax =>
 ∃ (aj : Option Addr) (aa ai : Nat), ag.cell? (ax.add 3) = some (.slice aj aa ai) ∧
 bif decide ((aa : Int) ≥ 20) then (
 R (.int .i64 3) ag) else (
 Q0l.J3 (blk ar.heap.size) (blk w.heap.size) R ag))))

theorem Q0l.ok (r1 : Option Addr) (a8 a9 a0 a4 : Int) (a1 : Option Addr) (a2 a3 : Nat) (a5 : Option Addr) (a7 a6 : Nat) {R : RW} {w : World} (h : Q0l.M r1 a8 a9 a0 a4 a1 a2 a3 a5 a7 a6 R w) : Calls Try.prog 25 #[.pointer r1, .agg #[.int .i64 a8, .int .i64 a9, .int .u64 a0, .int .i64 a4, .slice a1 a2 a3, .slice a5 a7 a6]] w fun e w' => ∃ v, e = .returned v ∧ R v w' :=
  Q0i follows (H := []) (args := [.pointer r1, .agg #[.int .i64 a8, .int .i64 a9, .int .u64 a0, .int .i64 a4, .slice a1 a2 a3, .slice a5 a7 a6]]) (cast (by kernel_rfl) h)

def Q0l.N (r1 : Option Addr) (b2 cf b9 bl : Int) (ad : Option Addr) (ab ap : Nat) (b3 : Option Addr) (b0 b4 : Nat) (R : RW) (w : World) : Prop :=
 ∀ (br : World) (q9 : Nat), Ext no w br → Blk br q9 34 [.pointer r1] → w.heap.size ≤ q9 → q9 < br.heap.size →
 ∃ (cs : Option Addr), br.cell? (blk q9) = some (.pointer cs) ∧
 (cs = none →
 ∀ (af : World), Ext no br af →
 R (.int .i64 23) af) ∧
 (cs ≠ none →
 (b2 ≠ 3 →
 ∀ (af : World), Ext no br af →
 R (.int .i64 1) af) ∧
 (b2 = 3 →
 ∀ (af : World) (bq : Nat), Ext no br af → Priv br af [bq] →
 Calls Try.prog 50 #[.agg #[.int .i64 b2, .int .i64 cf, .int .u64 b9, .int .i64 bl, .slice ad ab ap, .slice b3 b0 b4]] af fun cr b1 => ∃ (aj : Bool), cr = .returned (.bool aj) ∧
 Keep [bq] af b1 ∧
 (aj = false →
 R (.int .i64 1) b1) ∧
 (aj = true →
 ∃ (d1 : Option Addr), b1.cell? (blk q9) = some (.pointer d1) ∧
 ∃ d6 : Addr, d1 = some d6 ∧
 ∃ (be : Option Addr) (al bd : Nat), b1.cell? (d6.add 3) = some (.slice be al bd) ∧
 ((al : Int) ≥ 20 →
 R (.int .i64 3) b1) ∧
 ((al : Int) < 20 →
 Calls Try.prog 58 #[.slice ad ab ap, .func (.func 57) #[] #[.pointer (some (blk q9))]] b1 fun cy a5 => ∃ (a0 : Int), cy = .returned (.int .i64 a0) ∧
 Keep [bq] b1 a5 ∧
 (a0 ≥ 0 →
 ∃ (d2 : Option Addr), a5.cell? (blk q9) = some (.pointer d2) ∧
 ∃ d0 : Addr, d2 = some d0 ∧
 ∃ (d4 : Option Addr), a5.cell? (d0.add 0) = some (.pointer d4) ∧
 ∃ (d7 : Option Addr), a5.cell? (blk q9) = some (.pointer d7) ∧
 ∃ d8 : Addr, d7 = some d8 ∧
 ∃ (ax : Int), a5.cell? (d8.add 2) = some (.int .u64 ax) ∧
 ∃ d3 : Addr, ad = some d3 ∧
 0 ≤ (a0 : Int) ∧ (a0 : Int) < (ab : Int) ∧
 ∃ (c3 : Option Addr) (cd c8 : Nat), a5.cell? ((d3.add (Int.toNat a0 * 2)).add 1) = some (.slice c3 cd c8) ∧
 ∀ (bx : World), Ext no a5 bx →
 Calls Try.prog 59 #[.pointer d4, .int .u64 ax, .slice c3 cd c8] bx fun cv b8 => ∃ (ay az : Int), cv = .returned (.tuple #[.int .u64 ay, .int .i64 az]) ∧
 Keep [bq] bx b8 ∧
 ∃ (co : Option Addr), b8.cell? (blk q9) = some (.pointer co) ∧
 ∃ (ct : Option Addr), b8.cell? (blk q9) = some (.pointer ct) ∧
 ∃ cx : Addr, ct = some cx ∧
 ∃ (ak : Option Addr) (an am : Nat), b8.cell? (cx.add 3) = some (.slice ak an am) ∧
 ∀ (av : World) (cj : Nat), Ext no b8 av → Blk av cj 36 [.int .u64 ay] → b8.heap.size ≤ cj → cj < av.heap.size →
 av.cell? (cx.add 3) = some (.slice ak an am) ∧
 av.cell? (blk q9) = some (.pointer ct) ∧
 av.cell? (blk q9) = some (.pointer co) ∧
 ∃ (c6 : Option Addr) (ci c4 : Nat) (bb : World), (Builtin.append_ #[22, 22] 22 #[.slice ak an am, .slice (some (blk cj)) 1 1]).run Try.prog av = .ok (.slice c6 ci c4) bb ∧
 Keep [bq] av bb ∧
 bb.cell? (blk q9) = some (.pointer co) ∧
 ∃ ck : Addr, co = some ck ∧
 Q0d bb ((ck.add 3).add 0) ∧
 (∀ p ∈ [bq], p ≠ Addr.block (ck.add 3)) ∧
 thenW (bb.setCell ((ck.add 3).add 0) (.slice c6 ci c4)) fun bf =>
 ∃ (ch : Option Addr), bf.cell? (blk q9) = some (.pointer ch) ∧
 ∃ (cl : Option Addr), bf.cell? (blk q9) = some (.pointer cl) ∧
 ∃ cp : Addr, cl = some cp ∧
 ∃ (a7 : Option Addr) (a8 a6 : Nat), bf.cell? (cp.add 4) = some (.slice a7 a8 a6) ∧
 ∀ (c2 : World), Ext no bf c2 →
 Calls Try.prog 60 #[.slice b3 b0 b4] c2 fun cz bc => ∃ (aq : Option Addr) (aw ar : Nat), cz = .returned (.slice aq aw ar) ∧
 bc.cell? (cp.add 4) = some (.slice a7 a8 a6) ∧
 bc.cell? (blk q9) = some (.pointer cl) ∧
 bc.cell? (blk q9) = some (.pointer ch) ∧
 ∀ (b5 : World) (cm : Nat), Ext no bc b5 → Blk b5 cm 25 [.slice aq aw ar] → bc.heap.size ≤ cm → cm < b5.heap.size →
 b5.cell? (cp.add 4) = some (.slice a7 a8 a6) ∧
 b5.cell? (blk q9) = some (.pointer cl) ∧
 b5.cell? (blk q9) = some (.pointer ch) ∧
 ∃ (cg : Option Addr) (c9 ca : Nat) (bj : World), (Builtin.append_ #[59, 59] 59 #[.slice a7 a8 a6, .slice (some (blk cm)) 1 1]).run Try.prog b5 = .ok (.slice cg c9 ca) bj ∧
 bj.cell? (blk q9) = some (.pointer ch) ∧
 ∃ cw : Addr, ch = some cw ∧
 Q0d bj ((cw.add 4).add 0) ∧
 thenW (bj.setCell ((cw.add 4).add 0) (.slice cg c9 ca)) fun c5 =>
 ∃ (d5 : Option Addr), c5.cell? (blk q9) = some (.pointer d5) ∧
 Calls Try.prog 61 #[.pointer d5] c5 fun cu cq => cu = .returned (.tuple #[]) ∧
 R (.int .i64 az) cq) ∧
 (a0 < 0 →
 ∃ (cn : Option Addr), a5.cell? (blk q9) = some (.pointer cn) ∧
 ∃ (bz : Option Addr), a5.cell? (blk q9) = some (.pointer bz) ∧
 ∃ c1 : Addr, bz = some c1 ∧
 ∃ (ae : Option Addr) (a9 aa : Nat), a5.cell? (c1.add 3) = some (.slice ae a9 aa) ∧
 ∀ (a4 : World) (bh : Nat), Ext no a5 a4 → Blk a4 bh 36 [.int .u64 0] → a5.heap.size ≤ bh → bh < a4.heap.size →
 a4.cell? (c1.add 3) = some (.slice ae a9 aa) ∧
 a4.cell? (blk q9) = some (.pointer bz) ∧
 a4.cell? (blk q9) = some (.pointer cn) ∧
 ∃ (bo : Option Addr) (bp bw : Nat) (au : World), (Builtin.append_ #[22, 22] 22 #[.slice ae a9 aa, .slice (some (blk bh)) 1 1]).run Try.prog a4 = .ok (.slice bo bp bw) au ∧
 Keep [bq] a4 au ∧
 au.cell? (blk q9) = some (.pointer cn) ∧
 ∃ bm : Addr, cn = some bm ∧
 Q0d au ((bm.add 3).add 0) ∧
 (∀ p ∈ [bq], p ≠ Addr.block (bm.add 3)) ∧
 thenW (au.setCell ((bm.add 3).add 0) (.slice bo bp bw)) fun b6 =>
 ∃ (ba : Option Addr), b6.cell? (blk q9) = some (.pointer ba) ∧
 ∃ (bk : Option Addr), b6.cell? (blk q9) = some (.pointer bk) ∧
 ∃ bi : Addr, bk = some bi ∧
 ∃ (a2 : Option Addr) (a1 a3 : Nat), b6.cell? (bi.add 4) = some (.slice a2 a1 a3) ∧
 ∀ (bs : World), Ext no b6 bs →
 Calls Try.prog 60 #[.slice b3 b0 b4] bs fun c7 ao => ∃ (ah : Option Addr) (ai ag : Nat), c7 = .returned (.slice ah ai ag) ∧
 ao.cell? (bi.add 4) = some (.slice a2 a1 a3) ∧
 ao.cell? (blk q9) = some (.pointer bk) ∧
 ao.cell? (blk q9) = some (.pointer ba) ∧
 ∀ (ac : World) (bg : Nat), Ext no ao ac → Blk ac bg 25 [.slice ah ai ag] → ao.heap.size ≤ bg → bg < ac.heap.size →
 ac.cell? (bi.add 4) = some (.slice a2 a1 a3) ∧
 ac.cell? (blk q9) = some (.pointer bk) ∧
 ac.cell? (blk q9) = some (.pointer ba) ∧
 ∃ (bv : Option Addr) (bn bu : Nat) (b7 : World), (Builtin.append_ #[59, 59] 59 #[.slice a2 a1 a3, .slice (some (blk bg)) 1 1]).run Try.prog ac = .ok (.slice bv bn bu) b7 ∧
 b7.cell? (blk q9) = some (.pointer ba) ∧
 ∃ c0 : Addr, ba = some c0 ∧
 Q0d b7 ((c0.add 4).add 0) ∧
 thenW (b7.setCell ((c0.add 4).add 0) (.slice bv bn bu)) fun bt =>
 ∃ (cb : Option Addr), bt.cell? (blk q9) = some (.pointer cb) ∧
 Calls Try.prog 61 #[.pointer cb] bt fun cc ce => cc = .returned (.tuple #[]) ∧
 R (.int .i64 11) ce)))))

theorem Q0l.up (r1 : Option Addr) (a8 av a5 a9 : Int) (a3 : Option Addr) (a2 a1 : Nat) (a6 : Option Addr) (a4 a7 : Nat) {R : RW} {w : World} (h : Q0l.N r1 a8 av a5 a9 a3 a2 a1 a6 a4 a7 R w) : Q0l.M r1 a8 av a5 a9 a3 a2 a1 a6 a4 a7 R w := by
  unfold Q0l.M
  unfold Q0l.N at h
  refine Q01 fun ce e8 => ?_
  have h := h ce w.heap.size ((Ext.refl no w).x_alloc e8) (Blk.of_new e8) ((Ext.refl no w)).size (Q0w e8)
  refine Q01 fun bb ek => ?_
  have a0 := Blk.of_new ek
  have ev := ((Ext.refl no ce)).size
  have b0 := (Ext.refl no ce).x_alloc ek
  obtain ⟨ey, d5, h⟩ := h
  refine ⟨ey, (b0).cell d5 id, ?_⟩
  refine bif_of (fun ds => ?_) (fun ds => ?_)
  ·have h := h.1 (Q1y ds)
   have h := h bb b0
   exact h
  have h := h.2 (Q1w ds)
  refine ⟨a8, a0.celli 0 rfl rfl, ?_⟩
  refine bif_of (fun dd => ?_) (fun dd => ?_)
  ·have h := h.1 (bne_t dd)
   have h := h bb b0
   exact h
  have h := h.2 (bne_f dd)
  refine ⟨a8, av, a5, a9, a3, a2, a1, a6, a4, a7, ⟨a0.celli 0 rfl rfl, a0.celli 1 rfl rfl, a0.celli 2 rfl rfl, a0.celli 3 rfl rfl, a0.celli 4 rfl rfl, a0.celli 5 rfl rfl, trivial⟩, ?_⟩
  have h := h bb (ce.heap.size) b0 (Priv.cons ev a0.lt Priv.nil)
  refine h.mono fun ew eq h => ?_
  obtain ⟨b1, he, hk, h⟩ := h
  refine ⟨b1, he, ?_⟩
  have a0 := hk.blk a0 (by simp)
  refine bif_of (fun dl => ?_) (fun dl => ?_)
  ·have h := h.1 (not_t dl)
   exact h
  have h := h.2 (not_f dl)
  obtain ⟨eo, cg, h⟩ := h
  refine ⟨eo, cg, ?_⟩
  obtain ⟨fh, ch, h⟩ := h
  refine Q06 ch ?_
  obtain ⟨b3, b7, b2, de, h⟩ := h
  refine ⟨b3, b7, b2, de, ?_⟩
  refine bif_of (fun eb => ?_) (fun eb => ?_)
  ·have h := h.1 (of_decide_eq_true eb)
   exact h
  have h := h.2 (Int.not_le.1 (of_decide_eq_false eb))
  unfold Q0l.J3
  refine ⟨a3, a2, a1, a0.celli 4 rfl rfl, ?_⟩
  refine h.mono fun f9 bp h => ?_
  obtain ⟨aa, he, hk, h⟩ := h
  refine ⟨aa, he, ?_⟩
  have a0 := hk.blk a0 (by simp)
  refine bif_fo (fun dy => ?_) (fun dy => ?_)
  ·have h := h.2 (Int.not_le.1 (of_decide_eq_false dy))
   unfold Q0l.J2
   refine Q01 fun dr ei => ?_
   have ah := (Ext.refl no bp).x_drew ei
   have a0 := a0.x_drew ei
   obtain ⟨ex, cu, h⟩ := h
   refine ⟨ex, (ah).cell cu id, ?_⟩
   obtain ⟨cq, co, h⟩ := h
   refine ⟨cq, (ah).cell co id, ?_⟩
   obtain ⟨f8, c8, h⟩ := h
   refine Q06 c8 ?_
   obtain ⟨ax, ag, ai, bs, h⟩ := h
   refine ⟨ax, ag, ai, (ah).cell bs id, ?_⟩
   refine Q01 fun bj ba => ?_
   have a0 := a0.x_alloc ba
   have h := h bj dr.heap.size (ah.x_alloc ba) (Blk.of_new ba) (ah).size (Q0w ba)
   obtain ⟨c5, bg, be, h⟩ := h
   refine ⟨c5, bg, be, ?_⟩
   obtain ⟨bk, bm, c9, bw, hr, hk, h⟩ := h
   refine ⟨bk, bm, c9, bw, hr, ?_⟩
   have a0 := hk.blk a0 (by simp)
   obtain ⟨c0, h⟩ := h
   refine ⟨c0, ?_⟩
   obtain ⟨fc, cd, h⟩ := h
   refine Q06 cd ?_
   obtain ⟨hcs, hof, h⟩ := h
   refine ⟨hcs, Q01 fun ca bf => ?_⟩
   replace h := Q1c h bf
   have a0 := a0.off (by rw [Q18]; exact hof _ (by simp)) bf
   unfold Q0l.J1
   refine Q01 fun bu bo => ?_
   have ab := (Ext.refl no ca).x_drew bo
   have a0 := a0.x_drew bo
   obtain ⟨d4, c1, h⟩ := h
   refine ⟨d4, (ab).cell c1 id, ?_⟩
   obtain ⟨e1, bn, h⟩ := h
   refine ⟨e1, (ab).cell bn id, ?_⟩
   obtain ⟨f6, bv, h⟩ := h
   refine Q06 bv ?_
   obtain ⟨ar, an, au, bh, h⟩ := h
   refine ⟨ar, an, au, (ab).cell bh id, ?_⟩
   refine ⟨a6, a4, a7, a0.celli 5 rfl rfl, ?_⟩
   have h := h bu ab
   refine h.mono fun ed aj h => ?_
   obtain ⟨ae, af, ac, he, h⟩ := h
   refine ⟨ae, af, ac, he, ?_⟩
   obtain ⟨br, c7, bq, h⟩ := h
   refine ⟨br, c7, bq, ?_⟩
   refine Q01 fun c2 bc => ?_
   have h := h c2 aj.heap.size ((Ext.refl no aj).x_alloc bc) (Blk.of_new bc) ((Ext.refl no aj)).size (Q0w bc)
   obtain ⟨c6, bl, bt, h⟩ := h
   refine ⟨c6, bl, bt, ?_⟩
   obtain ⟨c3, bi, bx, cc, hr, h⟩ := h
   refine ⟨c3, bi, bx, cc, hr, ?_⟩
   obtain ⟨bz, h⟩ := h
   refine ⟨bz, ?_⟩
   obtain ⟨f1, cb, h⟩ := h
   refine Q06 cb ?_
   obtain ⟨hcs, h⟩ := h
   refine ⟨hcs, Q01 fun eg dx => ?_⟩
   replace h := Q1c h dx
   obtain ⟨dm, c4, h⟩ := h
   refine ⟨dm, c4, ?_⟩
   refine h.mono fun ej el h => ?_
   obtain ⟨he, h⟩ := h
   refine ⟨he, ?_⟩
   exact h
  have h := h.1 (of_decide_eq_true dy)
  refine Q01 fun cl eh => ?_
  have ad := (Ext.refl no bp).x_drew eh
  have a0 := a0.x_drew eh
  obtain ⟨er, dv, h⟩ := h
  refine ⟨er, (ad).cell dv id, ?_⟩
  obtain ⟨fd, cp, h⟩ := h
  refine Q06 cp ?_
  obtain ⟨eu, dj, h⟩ := h
  refine ⟨eu, (ad).cell dj id, ?_⟩
  obtain ⟨f5, e6, h⟩ := h
  refine ⟨f5, (ad).cell e6 id, ?_⟩
  obtain ⟨fi, dc, h⟩ := h
  refine Q06 dc ?_
  obtain ⟨ap, dw, h⟩ := h
  refine ⟨ap, (ad).cell dw id, ?_⟩
  refine ⟨a3, a2, a1, a0.celli 4 rfl rfl, ?_⟩
  obtain ⟨ff, cs, h⟩ := h
  refine Q06 cs ?_
  obtain ⟨f4, em, h⟩ := h
  refine ⟨f4, em, ?_⟩
  obtain ⟨ck, dq, cv, dp, h⟩ := h
  refine ⟨ck, dq, cv, (ad).cell dp id, ?_⟩
  have h := h cl ad
  refine h.mono fun f3 d2 h => ?_
  obtain ⟨aq, aw, he, hk, h⟩ := h
  refine ⟨aq, aw, he, ?_⟩
  have a0 := hk.blk a0 (by simp)
  unfold Q0l.J2
  refine Q01 fun d0 ef => ?_
  have am := (Ext.refl no d2).x_drew ef
  have a0 := a0.x_drew ef
  obtain ⟨f7, ct, h⟩ := h
  refine ⟨f7, (am).cell ct id, ?_⟩
  obtain ⟨ez, e4, h⟩ := h
  refine ⟨ez, (am).cell e4 id, ?_⟩
  obtain ⟨fj, cz, h⟩ := h
  refine Q06 cz ?_
  obtain ⟨b6, b9, b8, cr, h⟩ := h
  refine ⟨b6, b9, b8, (am).cell cr id, ?_⟩
  refine Q01 fun df cf => ?_
  have a0 := a0.x_alloc cf
  have h := h df d0.heap.size (am.x_alloc cf) (Blk.of_new cf) (am).size (Q0w cf)
  obtain ⟨du, dk, e5, h⟩ := h
  refine ⟨du, dk, e5, ?_⟩
  obtain ⟨cn, ea, cm, dg, hr, hk, h⟩ := h
  refine ⟨cn, ea, cm, dg, hr, ?_⟩
  have a0 := hk.blk a0 (by simp)
  obtain ⟨d8, h⟩ := h
  refine ⟨d8, ?_⟩
  obtain ⟨fe, d9, h⟩ := h
  refine Q06 d9 ?_
  obtain ⟨hcs, hof, h⟩ := h
  refine ⟨hcs, Q01 fun cw ee => ?_⟩
  replace h := Q1c h ee
  have a0 := a0.off (by rw [Q18]; exact hof _ (by simp)) ee
  unfold Q0l.J1
  refine Q01 fun cj ec => ?_
  have b4 := (Ext.refl no cw).x_drew ec
  have a0 := a0.x_drew ec
  obtain ⟨fb, ci, h⟩ := h
  refine ⟨fb, (b4).cell ci id, ?_⟩
  obtain ⟨ep, e9, h⟩ := h
  refine ⟨ep, (b4).cell e9 id, ?_⟩
  obtain ⟨fk, cy, h⟩ := h
  refine Q06 cy ?_
  obtain ⟨az, b5, ay, e3, h⟩ := h
  refine ⟨az, b5, ay, (b4).cell e3 id, ?_⟩
  refine ⟨a6, a4, a7, a0.celli 5 rfl rfl, ?_⟩
  have h := h cj b4
  refine h.mono fun fa bd h => ?_
  obtain ⟨ak, ao, al, he, h⟩ := h
  refine ⟨ak, ao, al, he, ?_⟩
  obtain ⟨d1, d3, db, h⟩ := h
  refine ⟨d1, d3, db, ?_⟩
  refine Q01 fun e2 e0 => ?_
  have h := h e2 bd.heap.size ((Ext.refl no bd).x_alloc e0) (Blk.of_new e0) ((Ext.refl no bd)).size (Q0w e0)
  obtain ⟨dh, d6, dn, h⟩ := h
  refine ⟨dh, d6, dn, ?_⟩
  obtain ⟨e7, d7, di, dz, hr, h⟩ := h
  refine ⟨e7, d7, di, dz, hr, ?_⟩
  obtain ⟨da, h⟩ := h
  refine ⟨da, ?_⟩
  obtain ⟨fg, cx, h⟩ := h
  refine Q06 cx ?_
  obtain ⟨hcs, h⟩ := h
  refine ⟨hcs, Q01 fun en et => ?_⟩
  replace h := Q1c h et
  obtain ⟨f2, dt, h⟩ := h
  refine ⟨f2, dt, ?_⟩
  refine h.mono fun f0 es h => ?_
  obtain ⟨he, h⟩ := h
  refine ⟨he, ?_⟩
  exact h

theorem Q0l.go (r1 : Option Addr) (a8 a9 a0 a4 : Int) (a1 : Option Addr) (a2 a3 : Nat) (a5 : Option Addr) (a7 a6 : Nat) {R : RW} {w : World} (h : Q0l.N r1 a8 a9 a0 a4 a1 a2 a3 a5 a7 a6 R w) : Calls Try.prog 25 #[.pointer r1, .agg #[.int .i64 a8, .int .i64 a9, .int .u64 a0, .int .i64 a4, .slice a1 a2 a3, .slice a5 a7 a6]] w fun e w' => ∃ v, e = .returned v ∧ R v w' := Q0l.ok r1 a8 a9 a0 a4 a1 a2 a3 a5 a7 a6 (Q0l.up r1 a8 a9 a0 a4 a1 a2 a3 a5 a7 a6 h)
theorem Q0l.run (r1 : Option Addr) (a8 a9 a0 a4 : Int) (a1 : Option Addr) (a2 a3 : Nat) (a5 : Option Addr) (a7 a6 : Nat) {V : Value} {Q : World → Prop} {w : World} (h : Q0l.N r1 a8 a9 a0 a4 a1 a2 a3 a5 a7 a6 (fun v w' => v = V ∧ Q w') w) : Calls Try.prog 25 #[.pointer r1, .agg #[.int .i64 a8, .int .i64 a9, .int .u64 a0, .int .i64 a4, .slice a1 a2 a3, .slice a5 a7 a6]] w (Ret V Q) := (Q0l.go r1 a8 a9 a0 a4 a1 a2 a3 a5 a7 a6 h).mono fun e w' ⟨v, he, hv, hq⟩ => ⟨by rw [he, hv], hq⟩

abbrev Q0V.J1 (aj : Option Addr) (ah af : Nat) (ai : Addr) (ae ad : Int) (I0 : Nat → List Value → World → Prop) (ac : Addr) (ag : Nat) (R : RW) (a3 : World) : Prop :=
 ∃ (a2 : Option Addr) (a0 a1 : Nat), a3.cell? (ac.add 4) = some (.slice a2 a0 a1) ∧
 ∃ (a5 : Int), a3.cell? (ai.add 0) = some (.int .i64 a5) ∧
 thenW (a3.alloc (.cells #[.int .i64 a5, .slice aj ah af] 115)) fun a9 =>
 ∃ (a8 : Option Addr) (a6 a7 : Nat) (a4 : World), (Builtin.append_ #[70, 70] 70 #[.slice a2 a0 a1, .slice (some (blk a3.heap.size)) 1 1]).run Try.prog a9 = .ok (.slice a8 a6 a7) a4 ∧
 Q0d a4 ((ac.add 4).add 0) ∧
 thenW (a4.setCell ((ac.add 4).add 0) (.slice a8 a6 a7)) fun ab =>
 ∃ aa, aa < ag ∧ I0 aa [.int .u64 ae, .int .i64 (IntKind.i64.wrap (ad + 1))] ab

abbrev Q0V.J2 (aw aq : Int) (I0 : Nat → List Value → World → Prop) (av : Addr) (ay : Option Addr) (ax : Nat) (am : Option Addr) (al : Nat) (R : RW) (ai : World) : Prop :=
 am.elim False fun az =>
 0 ≤ (aq : Int) ∧ (aq : Int) < (al : Int) ∧
 ∃ (aj a6 ae ak aa : Int), cellsAt ai (az.add (Int.toNat aq * 5)) [.int .i64 aj, .int .u64 a6, .int .i64 ae, .int .i64 ak, .int .i64 aa] 0 ∧
 thenW (ai.alloc (.cells #[.int .i64 0, .int .u64 0, .int .i64 0, .int .i64 0, .int .i64 0] 110)) fun ar =>
 putsK ar (blk ai.heap.size) [.int .i64 aj, .int .u64 a6, .int .i64 ae, .int .i64 ak, .int .i64 aa] 0 fun ao =>
 ∃ (ab : Int), ao.cell? ((blk ai.heap.size).add 1) = some (.int .u64 ab) ∧
 Calls Try.prog 41 #[.pointer ay, .int .u64 ab, .int .u64 aw] ao fun au an => ∃ (ag : Option Addr) (af ah : Nat) (ad : Int), au = .returned (.tuple #[.slice ag af ah, .int .i64 ad]) ∧
 bif ad != 0 then (
 putsK an av [.int .i64 0, .int .i64 0, .int .u64 0, .int .i64 0, .slice none 0 0, .slice none 0 0] 0 fun ap =>
 ∃ (a5 ac a0 a4 : Int) (a1 : Option Addr) (a2 a3 : Nat) (a8 : Option Addr) (a9 a7 : Nat), cellsAt ap av [.int .i64 a5, .int .i64 ac, .int .u64 a0, .int .i64 a4, .slice a1 a2 a3, .slice a8 a9 a7] 0 ∧
 R (.tuple #[.agg #[.int .i64 a5, .int .i64 ac, .int .u64 a0, .int .i64 a4, .slice a1 a2 a3, .slice a8 a9 a7], .int .u64 0, .int .i64 ad]) ap) else (
 Q0V.J1 ag af ah (blk ai.heap.size) aw aq I0 av ax R an)

abbrev Q0V.J3 (bo : Int) (bw : Option Addr) (bv : Int) (bu ba : Addr) (R : RW) (bf : World) : Prop :=
 ∃ (b8 : Int), bf.cell? (bu.add 1) = some (.int .i64 b8) ∧
 bif decide (b8 ≥ 0) then (
 ∃ (b7 : Int), bf.cell? (bu.add 1) = some (.int .i64 b7) ∧
 Calls Try.prog 42 #[.int .i64 (IntKind.i64.wrap (b7 + 1))] bf fun bs bp => ∃ (av : Option Addr) (b2 ar : Nat), bs = .returned (.slice av b2 ar) ∧
 Calls Try.prog 43 #[.int .u64 bv] bp fun br bt => ∃ (b4 : Option Addr) (aq b3 : Nat), br = .returned (.slice b4 aq b3) ∧
 Calls Try.prog 29 #[.pointer bw, .int .u64 bo, .slice av b2 ar, .slice b4 aq b3] bt fun bq bk => ∃ (au : Option Addr) (b1 az : Nat) (bj : Int), bq = .returned (.tuple #[.slice au b1 az, .int .i64 bj]) ∧
 Q0d bk ((ba.add 5).add 0) ∧
 thenW (bk.setCell ((ba.add 5).add 0) (.slice au b1 az)) fun bl =>
 ∃ (bb bi ad b0 : Int) (ao : Option Addr) (ak af : Nat) (bg : Option Addr) (be bc : Nat), cellsAt bl ba [.int .i64 bb, .int .i64 bi, .int .u64 ad, .int .i64 b0, .slice ao ak af, .slice bg be bc] 0 ∧
 putsK bl ba [.int .i64 bb, .int .i64 bi, .int .u64 ad, .int .i64 b0, .slice ao ak af, .slice bg be bc] 0 fun bm =>
 ∃ (aa ay a7 a9 : Int) (a4 : Option Addr) (a0 a5 : Nat) (ah : Option Addr) (am al : Nat), cellsAt bm ba [.int .i64 aa, .int .i64 ay, .int .u64 a7, .int .i64 a9, .slice a4 a0 a5, .slice ah am al] 0 ∧
 R (.tuple #[.agg #[.int .i64 aa, .int .i64 ay, .int .u64 a7, .int .i64 a9, .slice a4 a0 a5, .slice ah am al], .int .u64 bo, .int .i64 0]) bm) else (
 ∃ (bd bh ac aw : Int) (ai : Option Addr) (ab ap : Nat) (b6 : Option Addr) (b9 b5 : Nat), cellsAt bf ba [.int .i64 bd, .int .i64 bh, .int .u64 ac, .int .i64 aw, .slice ai ab ap, .slice b6 b9 b5] 0 ∧
 putsK bf ba [.int .i64 bd, .int .i64 bh, .int .u64 ac, .int .i64 aw, .slice ai ab ap, .slice b6 b9 b5] 0 fun bn =>
 ∃ (aj ax a3 a8 : Int) (a6 : Option Addr) (a2 a1 : Nat) (ae : Option Addr) (ag an : Nat), cellsAt bn ba [.int .i64 aj, .int .i64 ax, .int .u64 a3, .int .i64 a8, .slice a6 a2 a1, .slice ae ag an] 0 ∧
 R (.tuple #[.agg #[.int .i64 aj, .int .i64 ax, .int .u64 a3, .int .i64 a8, .slice a6 a2 a1, .slice ae ag an], .int .u64 bo, .int .i64 0]) bn)

abbrev Q0V.J4 (ao b0 : Addr) (ar : Option Addr) (b2 : Int) (R : RW) (av : World) : Prop :=
 Calls Try.prog 39 #[.pointer ar] av fun au aq => ∃ (aj : Int), au = .returned (.int .u64 aj) ∧
 Q0d aq ((ao.add 0).add 0) ∧
 thenW (aq.setCell ((ao.add 0).add 0) (.int .i64 3)) fun ap =>
 ∃ (ai : Option Addr) (ak am : Nat) (ab : Int), cellsAt ap b0 [.slice ai ak am, .int .i64 ab] 0 ∧
 Calls Try.prog 40 #[.agg #[.slice ai ak am, .int .i64 ab]] ap fun aw ay => ∃ (ag : Option Addr) (ac an : Nat), aw = .returned (.slice ag ac an) ∧
 ∃ (I0 : Nat → List Value → World → Prop) (b1 : Nat), I0 b1 [.int .u64 aj, .int .i64 0] ay ∧ ∀ (az : Nat) (af : World) (ah ax : Int), I0 az [.int .u64 ah, .int .i64 ax] af →
 bif decide (ax < (ac : Int)) then (
 Q0V.J2 ah ax I0 ao ar az ag ac R af) else (
 ∃ (ad : Option Addr) (aa ae : Nat), af.cell? (ao.add 4) = some (.slice ad aa ae) ∧
 bif (aa : Int) == 0 then (
 putsK af ao [.int .i64 0, .int .i64 0, .int .u64 0, .int .i64 0, .slice none 0 0, .slice none 0 0] 0 fun al =>
 ∃ (a8 a9 a3 a4 : Int) (a1 : Option Addr) (a2 a0 : Nat) (a6 : Option Addr) (a5 a7 : Nat), cellsAt al ao [.int .i64 a8, .int .i64 a9, .int .u64 a3, .int .i64 a4, .slice a1 a2 a0, .slice a6 a5 a7] 0 ∧
 R (.tuple #[.agg #[.int .i64 a8, .int .i64 a9, .int .u64 a3, .int .i64 a4, .slice a1 a2 a0, .slice a6 a5 a7], .int .u64 0, .int .i64 10]) al) else (
 Q0V.J3 ah ar b2 b0 ao R af))

def Q0V.M (o1 ap : Option Addr) (aq ar : Nat) (aj al : Int) (R : RW) (w : World) : Prop :=
 thenW (w.alloc (.cells #[.slice ap aq ar, .int .i64 aj] 64)) fun am =>
 thenW (am.alloc (.cells #[.int .i64 0, .int .i64 0, .int .u64 0, .int .i64 0, .slice none 0 0, .slice none 0 0] 72)) fun ao =>
 bif Option.isNone o1 then (
 ∃ (ai ak ac ae : Int) (a5 : Option Addr) (a8 a9 : Nat) (ag : Option Addr) (ah af : Nat), cellsAt ao (blk am.heap.size) [.int .i64 ai, .int .i64 ak, .int .u64 ac, .int .i64 ae, .slice a5 a8 a9, .slice ag ah af] 0 ∧
 putsK ao (blk am.heap.size) [.int .i64 ai, .int .i64 ak, .int .u64 ac, .int .i64 ae, .slice a5 a8 a9, .slice ag ah af] 0 fun an =>
 ∃ (aa ad a0 a4 : Int) (a3 : Option Addr) (a2 a1 : Nat) (ab : Option Addr) (a7 a6 : Nat), cellsAt an (blk am.heap.size) [.int .i64 aa, .int .i64 ad, .int .u64 a0, .int .i64 a4, .slice a3 a2 a1, .slice ab a7 a6] 0 ∧
 R (.tuple #[.agg #[.int .i64 aa, .int .i64 ad, .int .u64 a0, .int .i64 a4, .slice a3 a2 a1, .slice ab a7 a6], .int .u64 0, .int .i64 23]) an) else (
 Q0V.J4 (blk am.heap.size) (blk w.heap.size) o1 al R ao)

theorem Q0V.ok (o1 a3 : Option Addr) (a2 a4 : Nat) (a0 a1 : Int) {R : RW} {w : World} (h : Q0V.M o1 a3 a2 a4 a0 a1 R w) : Calls Try.prog 21 #[.pointer o1, .agg #[.slice a3 a2 a4, .int .i64 a0], .int .u64 a1] w fun e w' => ∃ v, e = .returned v ∧ R v w' :=
  Q0i follows (H := [(0, [0, 2, 4, 6, 20, 21], [(7, (.one (.int .u64))), (22, (.one (.int .i64)))])]) (args := [.pointer o1, .agg #[.slice a3 a2 a4, .int .i64 a0], .int .u64 a1]) (cast (by kernel_rfl) h)

def Q0V.N (o1 bu : Option Addr) (bv bz : Nat) (a1 bc : Int) (R : RW) (w : World) : Prop :=
 (o1 = none →
 ∀ (c0 : World), Ext no w c0 →
 R (.tuple #[.agg #[.int .i64 0, .int .i64 0, .int .u64 0, .int .i64 0, .slice none 0 0, .slice none 0 0], .int .u64 0, .int .i64 23]) c0) ∧
 (o1 ≠ none →
 ∀ (bo : World) (ba au : Nat), Ext no w bo → Priv w bo [ba, au] →
 Calls Try.prog 39 #[.pointer o1] bo fun bx bk => ∃ (b4 : Int), bx = .returned (.int .u64 b4) ∧
 Keep [ba, au] bo bk ∧
 ∀ (b5 : World), Ext (fun b => b = au) bk b5 →
 Calls Try.prog 40 #[.agg #[.slice bu bv bz, .int .i64 a1]] b5 fun bw bf => ∃ (aw : Option Addr) (aa b6 : Nat), bw = .returned (.slice aw aa b6) ∧
 Keep [ba, au] b5 bf ∧
 ∃ (I0 : Nat → List Value → World → Prop) (c5 : Nat), I0 c5 [.int .u64 b4, .int .i64 0, .int .i64 3, .int .i64 0, .int .u64 0, .int .i64 0, .slice none 0 0, .slice none 0 0] bf ∧ ∀ (c1 : Nat) (ai : World) (a7 b0 a9 ap a3 a5 : Int) (a2 : Option Addr) (a0 a4 : Nat) (am : Option Addr) (an al : Nat), I0 c1 [.int .u64 a7, .int .i64 b0, .int .i64 a9, .int .i64 ap, .int .u64 a3, .int .i64 a5, .slice a2 a0 a4, .slice am an al] ai →
 (b0 < (aa : Int) →
 ∃ c2 : Addr, aw = some c2 ∧
 0 ≤ (b0 : Int) ∧ (b0 : Int) < (aa : Int) ∧
 ∃ (ax a6 az bb ay : Int), cellsAt ai (c2.add (Int.toNat b0 * 5)) [.int .i64 ax, .int .u64 a6, .int .i64 az, .int .i64 bb, .int .i64 ay] 0 ∧
 ∀ (b2 : World) (c3 : Nat), Ext no ai b2 → Priv ai b2 [c3] →
 Calls Try.prog 41 #[.pointer o1, .int .u64 a6, .int .u64 a7] b2 fun bt b3 => ∃ (ao : Option Addr) (ar aq : Nat) (a8 : Int), bt = .returned (.tuple #[.slice ao ar aq, .int .i64 a8]) ∧
 Keep [ba, au, c3] b2 b3 ∧
 (a8 ≠ 0 →
 ∀ (bg : World), Ext (fun b => b = au) b3 bg →
 R (.tuple #[.agg #[.int .i64 0, .int .i64 0, .int .u64 0, .int .i64 0, .slice none 0 0, .slice none 0 0], .int .u64 0, .int .i64 a8]) bg) ∧
 (a8 = 0 →
 ∀ (av : World) (bp : Nat), Ext no b3 av → Blk av bp 115 [.int .i64 ax, .slice ao ar aq] → b3.heap.size ≤ bp → bp < av.heap.size →
 ∃ (be : Option Addr) (bn bi : Nat) (b9 : World), (Builtin.append_ #[70, 70] 70 #[.slice a2 a0 a4, .slice (some (blk bp)) 1 1]).run Try.prog av = .ok (.slice be bn bi) b9 ∧
 Keep [ba, au] av b9 ∧
 (-9223372036854775808 : Int) ≤ (b0 + 1) ∧ (b0 + 1) < 9223372036854775808 ∧
 ∀ (bl : World), Ext (fun b => b = au) b9 bl →
 ∃ c4, c4 < c1 ∧ I0 c4 [.int .u64 a7, .int .i64 (b0 + 1), .int .i64 a9, .int .i64 ap, .int .u64 a3, .int .i64 a5, .slice be bn bi, .slice am an al] bl)) ∧
 ((aa : Int) ≤ b0 →
 ((a0 : Int) = 0 →
 ∀ (bm : World), Ext (fun b => b = au) ai bm →
 R (.tuple #[.agg #[.int .i64 0, .int .i64 0, .int .u64 0, .int .i64 0, .slice none 0 0, .slice none 0 0], .int .u64 0, .int .i64 10]) bm) ∧
 ((a0 : Int) ≠ 0 →
 (a1 ≥ 0 →
 (-9223372036854775808 : Int) ≤ (a1 + 1) ∧ (a1 + 1) < 9223372036854775808 ∧
 Calls Try.prog 42 #[.int .i64 (a1 + 1)] ai fun bq b7 => ∃ (ae : Option Addr) (af ac : Nat), bq = .returned (.slice ae af ac) ∧
 Keep [au] ai b7 ∧
 Calls Try.prog 43 #[.int .u64 bc] b7 fun br b8 => ∃ (ad : Option Addr) (ag ab : Nat), br = .returned (.slice ad ag ab) ∧
 Keep [au] b7 b8 ∧
 Calls Try.prog 29 #[.pointer o1, .int .u64 a7, .slice ae af ac, .slice ad ag ab] b8 fun bs bj => ∃ (ah : Option Addr) (aj ak : Nat) (b1 : Int), bs = .returned (.tuple #[.slice ah aj ak, .int .i64 b1]) ∧
 Keep [au] b8 bj ∧
 ∀ (bd : World), Ext (fun b => b = au) bj bd →
 R (.tuple #[.agg #[.int .i64 a9, .int .i64 ap, .int .u64 a3, .int .i64 a5, .slice a2 a0 a4, .slice ah aj ak], .int .u64 a7, .int .i64 0]) bd) ∧
 (a1 < 0 →
 ∀ (bh : World), Ext (fun b => b = au) ai bh →
 R (.tuple #[.agg #[.int .i64 a9, .int .i64 ap, .int .u64 a3, .int .i64 a5, .slice a2 a0 a4, .slice am an al], .int .u64 a7, .int .i64 0]) bh))))

theorem Q0V.up (o1 b0 : Option Addr) (av ay : Nat) (ae b5 : Int) {R : RW} {w : World} (h : Q0V.N o1 b0 av ay ae b5 R w) : Q0V.M o1 b0 av ay ae b5 R w := by
  unfold Q0V.M
  unfold Q0V.N at h
  refine Q01 fun ai e5 => ?_
  have af := Blk.of_new e5
  have d3 := ((Ext.refl no w)).size
  have cr := (Ext.refl no w).x_alloc e5
  refine Q01 fun cw e6 => ?_
  have a0 := Blk.of_new e6
  have cs := (cr).size
  have b3 := Nat.ne_of_lt af.lt
  have af := af.x_alloc e6
  have ct := cr.x_alloc e6
  refine bif_of (fun c7 => ?_) (fun c7 => ?_)
  ·have h := h.1 (Q1y c7)
   refine ⟨0, 0, 0, 0, none, 0, 0, none, 0, 0, ⟨a0.celli 0 rfl rfl, a0.celli 1 rfl rfl, a0.celli 2 rfl rfl, a0.celli 3 rfl rfl, a0.celli 4 rfl rfl, a0.celli 5 rfl rfl, trivial⟩, ?_⟩
   refine Q0p (k := 0) (j := 0) a0 (Nat.le_of_ble_eq_true rfl) fun cq X8 b8 => ?_
   have cz := ct.x_puts X8 (.inr cs)
   have a0 : Blk cq ai.heap.size 72 [.int .i64 0, .int .i64 0, .int .u64 0, .int .i64 0, .slice none 0 0, .slice none 0 0] := b8
   refine ⟨0, 0, 0, 0, none, 0, 0, none, 0, 0, ⟨a0.celli 0 rfl rfl, a0.celli 1 rfl rfl, a0.celli 2 rfl rfl, a0.celli 3 rfl rfl, a0.celli 4 rfl rfl, a0.celli 5 rfl rfl, trivial⟩, ?_⟩
   have h := h cq cz
   exact h
  have h := h.2 (Q1w c7)
  unfold Q0V.J4
  have h := h cw (w.heap.size) (ai.heap.size) ct (Priv.cons d3 af.lt (Priv.cons cs a0.lt Priv.nil))
  refine h.mono fun d4 bc h => ?_
  obtain ⟨bp, he, hk, h⟩ := h
  refine ⟨bp, he, ?_⟩
  have af := hk.blk af (by simp)
  have a0 := hk.blk a0 (by simp)
  have bz : Ext (fun b => b = ai.heap.size) bc bc := ((Ext.refl no bc)).none
  refine ⟨a0.cani 0 rfl rfl, Q01 fun bm c6 => ?_⟩
  have cc := bz.x_set (q := ai.heap.size) (i := 0) rfl (.inl rfl) c6
  have af := af.oth (q := ai.heap.size) (i := 0) rfl b3 c6
  have a0 : Blk bm ai.heap.size 72 [.int .i64 3, .int .i64 0, .int .u64 0, .int .i64 0, .slice none 0 0, .slice none 0 0] := a0.seti 0 rfl c6
  refine ⟨b0, av, ay, ae, ⟨af.celli 0 rfl rfl, af.celli 1 rfl rfl, trivial⟩, ?_⟩
  have h := h bm cc
  refine h.mono fun dl d9 h => ?_
  obtain ⟨bb, bf, be, he, hk, h⟩ := h
  refine ⟨bb, bf, be, he, ?_⟩
  have af := hk.blk af (by simp)
  have a0 := hk.blk a0 (by simp)
  obtain ⟨I0, d5, h0, h⟩ := h
  refine ⟨fun k vs ww => ∃ (a6 a7 a4 a5 : Int) (a3 : Option Addr) (a2 a1 : Nat) (aa : Option Addr) (a8 a9 : Nat), Blk ww w.heap.size 64 [.slice b0 av ay, .int .i64 ae] ∧ Blk ww ai.heap.size 72 [.int .i64 a6, .int .i64 a7, .int .u64 a4, .int .i64 a5, .slice a3 a2 a1, .slice aa a8 a9] ∧ I0 k (vs ++ [.int .i64 a6, .int .i64 a7, .int .u64 a4, .int .i64 a5, .slice a3 a2 a1, .slice aa a8 a9]) ww, d5, ⟨3, 0, 0, 0, none, 0, 0, none, 0, 0, af, a0, h0⟩, fun df ah bl cx hI => ?_⟩
  obtain ⟨a6, a7, a4, a5, a3, a2, a1, aa, a8, a9, af, a0, hI⟩ := hI
  have h := h df ah bl cx a6 a7 a4 a5 a3 a2 a1 aa a8 a9 hI
  refine bif_fo (fun cj => ?_) (fun cj => ?_)
  ·have h := h.2 (Int.not_lt.1 (of_decide_eq_false cj))
   refine ⟨a3, a2, a1, a0.celli 4 rfl rfl, ?_⟩
   refine bif_of (fun cl => ?_) (fun cl => ?_)
   ·have h := h.1 (beq_t cl)
    have bu : Ext (fun b => b = ai.heap.size) ah ah := ((Ext.refl no ah)).none
    refine Q0p (k := 0) (j := 0) a0 (Nat.le_of_ble_eq_true rfl) fun bs d7 cv => ?_
    have ce := bu.x_puts d7 (.inl rfl)
    have a0 : Blk bs ai.heap.size 72 [.int .i64 0, .int .i64 0, .int .u64 0, .int .i64 0, .slice none 0 0, .slice none 0 0] := cv
    refine ⟨0, 0, 0, 0, none, 0, 0, none, 0, 0, ⟨a0.celli 0 rfl rfl, a0.celli 1 rfl rfl, a0.celli 2 rfl rfl, a0.celli 3 rfl rfl, a0.celli 4 rfl rfl, a0.celli 5 rfl rfl, trivial⟩, ?_⟩
    have h := h bs ce
    exact h
   have h := h.2 (beq_f cl)
   unfold Q0V.J3
   refine ⟨ae, af.celli 1 rfl rfl, ?_⟩
   refine bif_fo (fun c0 => ?_) (fun c0 => ?_)
   ·have h := h.2 (Int.not_le.1 (of_decide_eq_false c0))
    refine ⟨a6, a7, a4, a5, a3, a2, a1, aa, a8, a9, ⟨a0.celli 0 rfl rfl, a0.celli 1 rfl rfl, a0.celli 2 rfl rfl, a0.celli 3 rfl rfl, a0.celli 4 rfl rfl, a0.celli 5 rfl rfl, trivial⟩, ?_⟩
    have bv : Ext (fun b => b = ai.heap.size) ah ah := ((Ext.refl no ah)).none
    refine Q0p (k := 0) (j := 0) a0 (Nat.le_of_ble_eq_true rfl) fun bn d0 dh => ?_
    have cm := bv.x_puts d0 (.inl rfl)
    have a0 : Blk bn ai.heap.size 72 [.int .i64 a6, .int .i64 a7, .int .u64 a4, .int .i64 a5, .slice a3 a2 a1, .slice aa a8 a9] := dh
    refine ⟨a6, a7, a4, a5, a3, a2, a1, aa, a8, a9, ⟨a0.celli 0 rfl rfl, a0.celli 1 rfl rfl, a0.celli 2 rfl rfl, a0.celli 3 rfl rfl, a0.celli 4 rfl rfl, a0.celli 5 rfl rfl, trivial⟩, ?_⟩
    have h := h bn cm
    exact h
   have h := h.1 (of_decide_eq_true c0)
   refine ⟨ae, af.celli 1 rfl rfl, ?_⟩
   obtain ⟨ca, ch, h⟩ := h
   try rw [w64 ca ch]
   refine h.mono fun cy di h => ?_
   obtain ⟨an, ar, ao, he, hk, h⟩ := h
   refine ⟨an, ar, ao, he, ?_⟩
   have a0 := hk.blk a0 (by simp)
   refine h.mono fun de db h => ?_
   obtain ⟨ap, aq, au, he, hk, h⟩ := h
   refine ⟨ap, aq, au, he, ?_⟩
   have a0 := hk.blk a0 (by simp)
   refine h.mono fun dg b9 h => ?_
   obtain ⟨ab, ac, ad, ax, he, hk, h⟩ := h
   refine ⟨ab, ac, ad, ax, he, ?_⟩
   have a0 := hk.blk a0 (by simp)
   have c5 : Ext (fun b => b = ai.heap.size) b9 b9 := ((Ext.refl no b9)).none
   refine ⟨a0.cani 5 rfl rfl, Q01 fun c1 cp => ?_⟩
   have cg := c5.x_set (q := ai.heap.size) (i := 5) rfl (.inl rfl) cp
   have a0 : Blk c1 ai.heap.size 72 [.int .i64 a6, .int .i64 a7, .int .u64 a4, .int .i64 a5, .slice a3 a2 a1, .slice ab ac ad] := a0.seti 5 rfl cp
   refine ⟨a6, a7, a4, a5, a3, a2, a1, ab, ac, ad, ⟨a0.celli 0 rfl rfl, a0.celli 1 rfl rfl, a0.celli 2 rfl rfl, a0.celli 3 rfl rfl, a0.celli 4 rfl rfl, a0.celli 5 rfl rfl, trivial⟩, ?_⟩
   refine Q0p (k := 0) (j := 0) a0 (Nat.le_of_ble_eq_true rfl) fun bh d2 d6 => ?_
   have c2 := cg.x_puts d2 (.inl rfl)
   have a0 : Blk bh ai.heap.size 72 [.int .i64 a6, .int .i64 a7, .int .u64 a4, .int .i64 a5, .slice a3 a2 a1, .slice ab ac ad] := d6
   refine ⟨a6, a7, a4, a5, a3, a2, a1, ab, ac, ad, ⟨a0.celli 0 rfl rfl, a0.celli 1 rfl rfl, a0.celli 2 rfl rfl, a0.celli 3 rfl rfl, a0.celli 4 rfl rfl, a0.celli 5 rfl rfl, trivial⟩, ?_⟩
   have h := h bh c2
   exact h
  have h := h.1 (of_decide_eq_true cj)
  unfold Q0V.J2
  obtain ⟨dm, c8, h⟩ := h
  refine Q06 c8 ?_
  obtain ⟨dd, cu, h⟩ := h
  refine ⟨dd, cu, ?_⟩
  obtain ⟨ak, ag, al, b4, aj, ci, h⟩ := h
  refine ⟨ak, ag, al, b4, aj, ci, ?_⟩
  refine Q01 fun d8 bt => ?_
  have bg := Blk.of_new bt
  have co := ((Ext.refl no ah)).size
  have bq := Nat.ne_of_lt af.lt
  have af := af.x_alloc bt
  have bk := Nat.ne_of_lt a0.lt
  have a0 := a0.x_alloc bt
  have bw := (Ext.refl no ah).x_alloc bt
  refine Q0p (k := 0) (j := 0) bg (Nat.le_of_ble_eq_true rfl) fun bo cn dj => ?_
  have cf := bw.x_puts cn (.inr co)
  have af := af.x_puts cn bq
  have a0 := a0.x_puts cn bk
  have bg : Blk bo ah.heap.size 110 [.int .i64 ak, .int .u64 ag, .int .i64 al, .int .i64 b4, .int .i64 aj] := dj
  refine ⟨ag, bg.celli 1 rfl rfl, ?_⟩
  have h := h bo (ah.heap.size) cf (Priv.cons co bg.lt Priv.nil)
  refine h.mono fun d1 am h => ?_
  obtain ⟨az, b1, aw, ba, he, hk, h⟩ := h
  refine ⟨az, b1, aw, ba, he, ?_⟩
  have af := hk.blk af (by simp)
  have a0 := hk.blk a0 (by simp)
  have bg := hk.blk bg (by simp)
  refine bif_of (fun bx => ?_) (fun bx => ?_)
  ·have h := h.1 (bne_t bx)
   have cd : Ext (fun b => b = ai.heap.size) am am := ((Ext.refl no am)).none
   refine Q0p (k := 0) (j := 0) a0 (Nat.le_of_ble_eq_true rfl) fun bi dk da => ?_
   have ck := cd.x_puts dk (.inl rfl)
   have a0 : Blk bi ai.heap.size 72 [.int .i64 0, .int .i64 0, .int .u64 0, .int .i64 0, .slice none 0 0, .slice none 0 0] := da
   refine ⟨0, 0, 0, 0, none, 0, 0, none, 0, 0, ⟨a0.celli 0 rfl rfl, a0.celli 1 rfl rfl, a0.celli 2 rfl rfl, a0.celli 3 rfl rfl, a0.celli 4 rfl rfl, a0.celli 5 rfl rfl, trivial⟩, ?_⟩
   have h := h bi ck
   exact h
  have h := h.2 (bne_f bx)
  unfold Q0V.J1
  refine ⟨a3, a2, a1, a0.celli 4 rfl rfl, ?_⟩
  refine ⟨ak, bg.celli 0 rfl rfl, ?_⟩
  refine Q01 fun c9 bj => ?_
  have af := af.x_alloc bj
  have a0 := a0.x_alloc bj
  have h := h c9 am.heap.size ((Ext.refl no am).x_alloc bj) (Blk.of_new bj) ((Ext.refl no am)).size (Q0w bj)
  obtain ⟨b6, bd, b7, b2, hr, hk, h⟩ := h
  refine ⟨b6, bd, b7, b2, hr, ?_⟩
  have af := hk.blk af (by simp)
  have a0 := hk.blk a0 (by simp)
  have cb : Ext (fun b => b = ai.heap.size) b2 b2 := ((Ext.refl no b2)).none
  refine ⟨a0.cani 4 rfl rfl, Q01 fun br c4 => ?_⟩
  have c3 := cb.x_set (q := ai.heap.size) (i := 4) rfl (.inl rfl) c4
  have af := af.oth (q := ai.heap.size) (i := 4) rfl b3 c4
  have a0 : Blk br ai.heap.size 72 [.int .i64 a6, .int .i64 a7, .int .u64 a4, .int .i64 a5, .slice b6 bd b7, .slice aa a8 a9] := a0.seti 4 rfl c4
  obtain ⟨ca, ch, h⟩ := h
  try rw [w64 ca ch]
  have h := h br c3
  obtain ⟨dc, hk, h⟩ := h
  exact ⟨dc, hk, a6, a7, a4, a5, b6, bd, b7, aa, a8, a9, af, a0, h⟩

theorem Q0V.go (o1 a3 : Option Addr) (a2 a4 : Nat) (a0 a1 : Int) {R : RW} {w : World} (h : Q0V.N o1 a3 a2 a4 a0 a1 R w) : Calls Try.prog 21 #[.pointer o1, .agg #[.slice a3 a2 a4, .int .i64 a0], .int .u64 a1] w fun e w' => ∃ v, e = .returned v ∧ R v w' := Q0V.ok o1 a3 a2 a4 a0 a1 (Q0V.up o1 a3 a2 a4 a0 a1 h)
abbrev Q0K.J1 (a6 : Int) (aa : Option Addr) (a9 ab : Nat) (a8 : Int) (I0 : Nat → List Value → World → Prop) (m6 : Nat) (R : RW) (a2 : World) : Prop :=
 256 ≠ (0 : Int) ∧ thenW (a2.alloc (.cells #[.int .u8 (IntKind.u8.wrap (Int.tmod a6 256))] 5)) fun a5 =>
 ∃ (a3 : Option Addr) (a0 a4 : Nat) (a1 : World), (Builtin.append_ #[25, 25] 25 #[.slice (some (blk a2.heap.size)) 1 1, .slice aa a9 ab]).run Try.prog a5 = .ok (.slice a3 a0 a4) a1 ∧
 256 ≠ (0 : Int) ∧ ∃ a7, a7 < m6 ∧ I0 a7 [.int .u64 (IntKind.u64.wrap (Int.tdiv a6 256)), .slice a3 a0 a4, .int .i64 (IntKind.i64.wrap (a8 + 1))] a1

def Q0K.M (n1 : Int) (R : RW) (w : World) : Prop :=
 ∃ (I0 : Nat → List Value → World → Prop) (m5 : Nat), I0 m5 [.int .u64 n1, .slice none 0 0, .int .i64 0] w ∧ ∀ (m6 : Nat) (a0 : World) (n2 : Int) (a3 : Option Addr) (a2 a1 : Nat) (i4 : Int), I0 m6 [.int .u64 n2, .slice a3 a2 a1, .int .i64 i4] a0 →
 bif decide (i4 < 8) then (
 Q0K.J1 n2 a3 a2 a1 i4 I0 m6 R a0) else (
 R (.slice a3 a2 a1) a0)

theorem Q0K.ok (n1 : Int) {R : RW} {w : World} (h : Q0K.M n1 R w) : Calls Try.prog 49 #[.int .u64 n1] w fun e w' => ∃ v, e = .returned v ∧ R v w' :=
  Q0i follows (H := [(0, [], [(0, (.one (.int .u64))), (3, (.one .slice)), (4, (.one (.int .i64)))])]) (args := [.int .u64 n1]) (cast (by kernel_rfl) h)

def Q0K.N (n1 : Int) (R : RW) (w : World) : Prop :=
 ∃ (I0 : Nat → List Value → World → Prop) (m5 : Nat), I0 m5 [.int .u64 n1, .slice none 0 0, .int .i64 0] w ∧ ∀ (m6 : Nat) (a5 : World) (n2 : Int) (a9 : Option Addr) (a8 a7 : Nat) (i4 : Int), I0 m6 [.int .u64 n2, .slice a9 a8 a7, .int .i64 i4] a5 →
 (i4 < 8 →
 ∀ (a6 : World) (a4 : Nat), Ext no a5 a6 → Blk a6 a4 5 [.int .u8 (IntKind.u8.wrap (Int.tmod n2 256))] → a5.heap.size ≤ a4 → a4 < a6.heap.size →
 ∃ (a0 : Option Addr) (a1 a2 : Nat) (a3 : World), (Builtin.append_ #[25, 25] 25 #[.slice (some (blk a4)) 1 1, .slice a9 a8 a7]).run Try.prog a6 = .ok (.slice a0 a1 a2) a3 ∧
 (-9223372036854775808 : Int) ≤ (i4 + 1) ∧ (i4 + 1) < 9223372036854775808 ∧
 ∃ aa, aa < m6 ∧ I0 aa [.int .u64 (IntKind.u64.wrap (Int.tdiv n2 256)), .slice a0 a1 a2, .int .i64 (i4 + 1)] a3) ∧
 ((8 : Int) ≤ i4 →
 R (.slice a9 a8 a7) a5)

theorem Q0K.up (n1 : Int) {R : RW} {w : World} (h : Q0K.N n1 R w) : Q0K.M n1 R w := by
  unfold Q0K.M
  unfold Q0K.N at h
  obtain ⟨I0, m5, h0, h⟩ := h
  refine ⟨I0, m5, h0, fun m6 a0 n2 a9 a7 a6 i4 hI => ?_⟩
  have h := h m6 a0 n2 a9 a7 a6 i4 hI
  refine bif_fo (fun c8 => ?_) (fun c8 => ?_)
  ·have h := h.2 (Int.not_lt.1 (of_decide_eq_false c8))
   exact h
  have h := h.1 (of_decide_eq_true c8)
  unfold Q0K.J1
  refine ⟨by decide, ?_⟩
  refine Q01 fun aa e9 => ?_
  have h := h aa a0.heap.size ((Ext.refl no a0).x_alloc e9) (Blk.of_new e9) ((Ext.refl no a0)).size (Q0w e9)
  obtain ⟨a1, a2, a3, a4, hr, h⟩ := h
  refine ⟨a1, a2, a3, a4, hr, ?_⟩
  refine ⟨by decide, ?_⟩
  obtain ⟨ab, a8, h⟩ := h
  try rw [w64 ab a8]
  obtain ⟨a5, hk, h⟩ := h
  exact ⟨a5, hk, h⟩

theorem Q0K.go (n1 : Int) {R : RW} {w : World} (h : Q0K.N n1 R w) : Calls Try.prog 49 #[.int .u64 n1] w fun e w' => ∃ v, e = .returned v ∧ R v w' := Q0K.ok n1 (Q0K.up n1 h)
abbrev Q0q.J1 (ag : Option Addr) (ak ah : Nat) (a6 : Int) (I0 : Nat → List Value → World → Prop) (al : Option Addr) (ai : Nat) (ae : Addr) (aj : Nat) (R : RW) (ab : World) : Prop :=
 thenW (ab.drew) fun a3 =>
 ∃ (a2 : Option Addr) (a0 a1 : Nat), a3.cell? (ae.add 4) = some (.slice a2 a0 a1) ∧
 al.elim False fun af =>
 0 ≤ (a6 : Int) ∧ (a6 : Int) < (ai : Int) ∧
 ∃ (a5 : Int), a3.cell? ((af.add (Int.toNat a6 * 5)).add 0) = some (.int .i64 a5) ∧
 thenW (a3.alloc (.cells #[.int .i64 a5, .slice ag ak ah] 119)) fun a9 =>
 a9.cell? (ae.add 4) = some (.slice a2 a0 a1) ∧
 ∃ (a7 : Option Addr) (aa a8 : Nat) (a4 : World), (Builtin.append_ #[75, 75] 75 #[.slice a2 a0 a1, .slice (some (blk a3.heap.size)) 1 1]).run Try.prog a9 = .ok (.slice a7 aa a8) a4 ∧
 Q0d a4 ((ae.add 4).add 0) ∧
 thenW (a4.setCell ((ae.add 4).add 0) (.slice a7 aa a8)) fun ad =>
 ∃ ac, ac < aj ∧ I0 ac [.int .i64 (IntKind.i64.wrap (a6 + 1))] ad

abbrev Q0q.J2 (ai : Int) (I0 : Nat → List Value → World → Prop) (al : Option Addr) (ak : Nat) (aq : Addr) (ao : Int) (am : Addr) (ap : Option Addr) (ar : Nat) (R : RW) (ag : World) : Prop :=
 al.elim False fun an =>
 0 ≤ (ai : Int) ∧ (ai : Int) < (ak : Int) ∧
 ∃ (a9 : Int), ag.cell? ((an.add (Int.toNat ai * 5)).add 1) = some (.int .u64 a9) ∧
 Calls Try.prog 46 #[.pointer ap, .int .u64 a9, .int .u64 ao] ag fun aj ah => ∃ (ae : Option Addr) (ad ac : Nat) (ab : Int), aj = .returned (.tuple #[.slice ae ad ac, .int .i64 ab]) ∧
 bif ab != 0 then (
 putsK ah am [.int .i64 0, .int .i64 0, .int .u64 0, .int .i64 0, .slice none 0 0, .slice none 0 0] 0 fun af =>
 ∃ (a8 aa a0 a4 : Int) (a2 : Option Addr) (a3 a1 : Nat) (a6 : Option Addr) (a5 a7 : Nat), cellsAt af am [.int .i64 a8, .int .i64 aa, .int .u64 a0, .int .i64 a4, .slice a2 a3 a1, .slice a6 a5 a7] 0 ∧
 R (.tuple #[.agg #[.int .i64 a8, .int .i64 aa, .int .u64 a0, .int .i64 a4, .slice a2 a3 a1, .slice a6 a5 a7], .int .u64 0, .int .i64 ab]) af) else (
 Q0q.J1 ae ad ac ai I0 al ak aq ar R ah)

abbrev Q0q.J3 (c4 : Option Addr) (bz : Nat) (bp : Addr) (bu : Int) (bs c1 : Addr) (bx : Option Addr) (c2 : Int) (R : RW) (bv : World) : Prop :=
 ∃ (I0 : Nat → List Value → World → Prop) (c3 : Nat), I0 c3 [.int .i64 0] bv ∧ ∀ (c0 : Nat) (bc : World) (bw : Int), I0 c0 [.int .i64 bw] bc →
 bif decide (bw < (bz : Int)) then (
 Q0q.J2 bw I0 c4 bz bp bu bs bx c0 R bc) else (
 ∃ (b9 : Int), bc.cell? (c1.add 1) = some (.int .i64 b9) ∧
 bif b9 != (-1) then (
 ∃ (b5 : Int), bc.cell? (c1.add 1) = some (.int .i64 b5) ∧
 Calls Try.prog 48 #[.int .u64 (IntKind.u64.wrap (IntKind.i64.wrap (b5 + 1)))] bc fun bo bt => ∃ (bd : Option Addr) (bg be : Nat), bo = .returned (.slice bd bg be) ∧
 Calls Try.prog 49 #[.int .u64 c2] bt fun bn bq => ∃ (av : Option Addr) (ay aq : Nat), bn = .returned (.slice av ay aq) ∧
 Calls Try.prog 47 #[.pointer bx, .int .u64 bu, .slice bd bg be, .slice av ay aq] bq fun br bl => ∃ (b1 : Option Addr) (b0 aw : Nat) (bi : Int), br = .returned (.tuple #[.slice b1 b0 aw, .int .i64 bi]) ∧
 Q0d bl ((bp.add 5).add 0) ∧
 thenW (bl.setCell ((bp.add 5).add 0) (.slice b1 b0 aw)) fun bm =>
 ∃ (b6 bh ae ar : Int) (ao : Option Addr) (ap ac : Nat) (b2 : Option Addr) (b8 b4 : Nat), cellsAt bm bp [.int .i64 b6, .int .i64 bh, .int .u64 ae, .int .i64 ar, .slice ao ap ac, .slice b2 b8 b4] 0 ∧
 putsK bm bs [.int .i64 b6, .int .i64 bh, .int .u64 ae, .int .i64 ar, .slice ao ap ac, .slice b2 b8 b4] 0 fun bk =>
 ∃ (ab ax a3 a9 : Int) (a1 : Option Addr) (a2 a7 : Nat) (ak : Option Addr) (an af : Nat), cellsAt bk bs [.int .i64 ab, .int .i64 ax, .int .u64 a3, .int .i64 a9, .slice a1 a2 a7, .slice ak an af] 0 ∧
 R (.tuple #[.agg #[.int .i64 ab, .int .i64 ax, .int .u64 a3, .int .i64 a9, .slice a1 a2 a7, .slice ak an af], .int .u64 bu, .int .i64 0]) bk) else (
 ∃ (b7 bf ad au : Int) (aa : Option Addr) (ah am : Nat) (b3 : Option Addr) (ba bb : Nat), cellsAt bc bp [.int .i64 b7, .int .i64 bf, .int .u64 ad, .int .i64 au, .slice aa ah am, .slice b3 ba bb] 0 ∧
 putsK bc bs [.int .i64 b7, .int .i64 bf, .int .u64 ad, .int .i64 au, .slice aa ah am, .slice b3 ba bb] 0 fun bj =>
 ∃ (ai az a0 a8 : Int) (a4 : Option Addr) (a5 a6 : Nat) (al : Option Addr) (ag aj : Nat), cellsAt bj bs [.int .i64 ai, .int .i64 az, .int .u64 a0, .int .i64 a8, .slice a4 a5 a6, .slice al ag aj] 0 ∧
 R (.tuple #[.agg #[.int .i64 ai, .int .i64 az, .int .u64 a0, .int .i64 a8, .slice a4 a5 a6, .slice al ag aj], .int .u64 bu, .int .i64 0]) bj))

def Q0q.M (o1 aq : Option Addr) (ar av : Nat) (ad ai : Int) (R : RW) (w : World) : Prop :=
 thenW (w.alloc (.cells #[.slice aq ar av, .int .i64 ad] 68)) fun an =>
 thenW (an.alloc (.cells #[.int .i64 0, .int .i64 0, .int .u64 0, .int .i64 0, .slice none 0 0, .slice none 0 0] 77)) fun aw =>
 Calls Try.prog 44 #[.pointer o1] aw fun ax ao => ∃ (am : Int), ax = .returned (.int .u64 am) ∧
 thenW (ao.alloc (.cells #[.int .i64 0, .int .i64 0, .int .u64 0, .int .i64 0, .slice none 0 0, .slice none 0 0] 77)) fun au =>
 putsK au (blk ao.heap.size) [.int .i64 3, .int .i64 0, .int .u64 0, .int .i64 0, .slice none 0 0, .slice none 0 0] 0 fun ak =>
 ∃ (ae : Option Addr) (af ag : Nat) (aa : Int), cellsAt ak (blk w.heap.size) [.slice ae af ag, .int .i64 aa] 0 ∧
 Calls Try.prog 45 #[.agg #[.slice ae af ag, .int .i64 aa]] ak fun ap aj => ∃ (ac : Option Addr) (ab ah : Nat), ap = .returned (.slice ac ab ah) ∧
 bif (ab : Int) == 0 then (
 putsK aj (blk an.heap.size) [.int .i64 0, .int .i64 0, .int .u64 0, .int .i64 0, .slice none 0 0, .slice none 0 0] 0 fun al =>
 ∃ (a8 a9 a3 a4 : Int) (a0 : Option Addr) (a2 a1 : Nat) (a6 : Option Addr) (a7 a5 : Nat), cellsAt al (blk an.heap.size) [.int .i64 a8, .int .i64 a9, .int .u64 a3, .int .i64 a4, .slice a0 a2 a1, .slice a6 a7 a5] 0 ∧
 R (.tuple #[.agg #[.int .i64 a8, .int .i64 a9, .int .u64 a3, .int .i64 a4, .slice a0 a2 a1, .slice a6 a7 a5], .int .u64 0, .int .i64 10]) al) else (
 Q0q.J3 ac ab (blk ao.heap.size) am (blk an.heap.size) (blk w.heap.size) o1 ai R aj)

theorem Q0q.ok (o1 a3 : Option Addr) (a2 a4 : Nat) (a0 a1 : Int) {R : RW} {w : World} (h : Q0q.M o1 a3 a2 a4 a0 a1 R w) : Calls Try.prog 22 #[.pointer o1, .agg #[.slice a3 a2 a4, .int .i64 a0], .int .u64 a1] w fun e w' => ∃ v, e = .returned v ∧ R v w' :=
  Q0i follows (H := [(0, [0, 2, 4, 6, 9, 10, 11], [(12, (.one (.int .i64)))])]) (args := [.pointer o1, .agg #[.slice a3 a2 a4, .int .i64 a0], .int .u64 a1]) (cast (by kernel_rfl) h)

def Q0q.N (o1 c4 : Option Addr) (bu c2 : Nat) (a0 bm : Int) (R : RW) (w : World) : Prop :=
 ∀ (bs : World) (p7 p8 : Nat), Ext no w bs → Priv w bs [p7, p8] →
 Calls Try.prog 44 #[.pointer o1] bs fun bw bg => ∃ (az : Int), bw = .returned (.int .u64 az) ∧
 Keep [p7, p8] bs bg ∧
 ∀ (b9 : World) (b7 : Nat), Ext no bg b9 → Priv bg b9 [b7] →
 Calls Try.prog 45 #[.agg #[.slice c4 bu c2, .int .i64 a0]] b9 fun bx be => ∃ (b2 : Option Addr) (a1 bd : Nat), bx = .returned (.slice b2 a1 bd) ∧
 Keep [p7, p8, b7] b9 be ∧
 ((a1 : Int) = 0 →
 ∀ (bn : World), Ext (fun b => b = p8) be bn →
 R (.tuple #[.agg #[.int .i64 0, .int .i64 0, .int .u64 0, .int .i64 0, .slice none 0 0, .slice none 0 0], .int .u64 0, .int .i64 10]) bn) ∧
 ((a1 : Int) ≠ 0 →
 ∃ (I0 : Nat → List Value → World → Prop) (c7 : Nat), I0 c7 [.int .i64 0, .int .i64 0, .int .i64 0, .int .u64 0, .int .i64 0, .slice none 0 0, .slice none 0 0, .int .i64 3, .int .i64 0, .int .u64 0, .int .i64 0, .slice none 0 0, .slice none 0 0] be ∧ ∀ (c6 : Nat) (am : World) (av b6 bb ai ar : Int) (ac : Option Addr) (aa af : Nat) (b1 : Option Addr) (b5 ax : Nat) (a7 aq a3 a6 : Int) (a2 : Option Addr) (a5 a4 : Nat) (ak : Option Addr) (al an : Nat), I0 c6 [.int .i64 av, .int .i64 b6, .int .i64 bb, .int .u64 ai, .int .i64 ar, .slice ac aa af, .slice b1 b5 ax, .int .i64 a7, .int .i64 aq, .int .u64 a3, .int .i64 a6, .slice a2 a5 a4, .slice ak al an] am →
 (av < (a1 : Int) →
 ∃ c1 : Addr, b2 = some c1 ∧
 0 ≤ (av : Int) ∧ (av : Int) < (a1 : Int) ∧
 ∃ (ah : Int), am.cell? ((c1.add (Int.toNat av * 5)).add 1) = some (.int .u64 ah) ∧
 Calls Try.prog 46 #[.pointer o1, .int .u64 ah, .int .u64 az] am fun bv b4 => ∃ (ap : Option Addr) (au ao : Nat) (a8 : Int), bv = .returned (.tuple #[.slice ap au ao, .int .i64 a8]) ∧
 Keep [p7, p8, b7] am b4 ∧
 (a8 ≠ 0 →
 ∀ (bo : World), Ext (fun b => b = p8) b4 bo →
 R (.tuple #[.agg #[.int .i64 0, .int .i64 0, .int .u64 0, .int .i64 0, .slice none 0 0, .slice none 0 0], .int .u64 0, .int .i64 a8]) bo) ∧
 (a8 = 0 →
 0 ≤ (av : Int) ∧ (av : Int) < (a1 : Int) ∧
 ∃ (ba : Int), b4.cell? ((c1.add (Int.toNat av * 5)).add 0) = some (.int .i64 ba) ∧
 ∀ (b0 : World) (bt : Nat), Ext no b4 b0 → Blk b0 bt 119 [.int .i64 ba, .slice ap au ao] → b4.heap.size ≤ bt → bt < b0.heap.size →
 ∃ (br : Option Addr) (bp bk : Nat) (bh : World), (Builtin.append_ #[75, 75] 75 #[.slice a2 a5 a4, .slice (some (blk bt)) 1 1]).run Try.prog b0 = .ok (.slice br bp bk) bh ∧
 Keep [p7, p8, b7] b0 bh ∧
 (-9223372036854775808 : Int) ≤ (av + 1) ∧ (av + 1) < 9223372036854775808 ∧
 ∀ (bq : World), Ext (fun b => b = b7) bh bq →
 ∃ c5, c5 < c6 ∧ I0 c5 [.int .i64 (av + 1), .int .i64 b6, .int .i64 bb, .int .u64 ai, .int .i64 ar, .slice ac aa af, .slice b1 b5 ax, .int .i64 a7, .int .i64 aq, .int .u64 a3, .int .i64 a6, .slice br bp bk, .slice ak al an] bq)) ∧
 ((a1 : Int) ≤ av →
 (a0 ≠ (-1) →
 (-9223372036854775808 : Int) ≤ (a0 + 1) ∧ (a0 + 1) < 9223372036854775808 ∧
 Calls Try.prog 48 #[.int .u64 (IntKind.u64.wrap (a0 + 1))] am fun c0 bc => ∃ (b3 : Option Addr) (ay aw : Nat), c0 = .returned (.slice b3 ay aw) ∧
 Keep [p8, b7] am bc ∧
 Calls Try.prog 49 #[.int .u64 bm] bc fun bz bf => ∃ (ae : Option Addr) (ab ag : Nat), bz = .returned (.slice ae ab ag) ∧
 Keep [p8, b7] bc bf ∧
 Calls Try.prog 47 #[.pointer o1, .int .u64 az, .slice b3 ay aw, .slice ae ab ag] bf fun c3 bl => ∃ (aj : Option Addr) (ad a9 : Nat) (b8 : Int), c3 = .returned (.tuple #[.slice aj ad a9, .int .i64 b8]) ∧
 Keep [p8, b7] bf bl ∧
 ∀ (bj : World), Ext (fun b => b = p8 ∨ b = b7) bl bj →
 R (.tuple #[.agg #[.int .i64 a7, .int .i64 aq, .int .u64 a3, .int .i64 a6, .slice a2 a5 a4, .slice aj ad a9], .int .u64 az, .int .i64 0]) bj) ∧
 (a0 = (-1) →
 ∀ (bi : World), Ext (fun b => b = p8) am bi →
 R (.tuple #[.agg #[.int .i64 a7, .int .i64 aq, .int .u64 a3, .int .i64 a6, .slice a2 a5 a4, .slice ak al an], .int .u64 az, .int .i64 0]) bi)))

theorem Q0q.up (o1 b8 : Option Addr) (b1 b7 : Nat) (aj bb : Int) {R : RW} {w : World} (h : Q0q.N o1 b8 b1 b7 aj bb R w) : Q0q.M o1 b8 b1 b7 aj bb R w := by
  unfold Q0q.M
  unfold Q0q.N at h
  refine Q01 fun az e5 => ?_
  have al := Blk.of_new e5
  have da := ((Ext.refl no w)).size
  have cy := (Ext.refl no w).x_alloc e5
  refine Q01 fun cz e6 => ?_
  have a5 := Blk.of_new e6
  have df := (cy).size
  have cx := Nat.ne_of_lt al.lt
  have al := al.x_alloc e6
  have dm := cy.x_alloc e6
  have h := h cz (w.heap.size) (az.heap.size) dm (Priv.cons da al.lt (Priv.cons df a5.lt Priv.nil))
  refine h.mono fun d8 ak h => ?_
  obtain ⟨c9, he, hk, h⟩ := h
  refine ⟨c9, he, ?_⟩
  have al := hk.blk al (by simp)
  have a5 := hk.blk a5 (by simp)
  refine Q01 fun dk c0 => ?_
  have a7 := Blk.of_new c0
  have cw := ((Ext.refl no ak)).size
  have bc := Nat.ne_of_lt al.lt
  have al := al.x_alloc c0
  have au := Nat.ne_of_lt a5.lt
  have a5 := a5.x_alloc c0
  have cg := (Ext.refl no ak).x_alloc c0
  refine Q0p (k := 0) (j := 0) a7 (Nat.le_of_ble_eq_true rfl) fun bw cu d6 => ?_
  have cl := cg.x_puts cu (.inr cw)
  have al := al.x_puts cu bc
  have a5 := a5.x_puts cu au
  have a7 : Blk bw ak.heap.size 77 [.int .i64 3, .int .i64 0, .int .u64 0, .int .i64 0, .slice none 0 0, .slice none 0 0] := d6
  refine ⟨b8, b1, b7, aj, ⟨al.celli 0 rfl rfl, al.celli 1 rfl rfl, trivial⟩, ?_⟩
  have h := h bw (ak.heap.size) cl (Priv.cons cw a7.lt Priv.nil)
  refine h.mono fun d9 bk h => ?_
  obtain ⟨bg, bm, bh, he, hk, h⟩ := h
  refine ⟨bg, bm, bh, he, ?_⟩
  have al := hk.blk al (by simp)
  have a5 := hk.blk a5 (by simp)
  have a7 := hk.blk a7 (by simp)
  refine bif_of (fun c8 => ?_) (fun c8 => ?_)
  ·have h := h.1 (beq_t c8)
   have ci : Ext (fun b => b = az.heap.size) bk bk := ((Ext.refl no bk)).none
   refine Q0p (k := 0) (j := 0) a5 (Nat.le_of_ble_eq_true rfl) fun bv d1 dp => ?_
   have ce := ci.x_puts d1 (.inl rfl)
   have a5 : Blk bv az.heap.size 77 [.int .i64 0, .int .i64 0, .int .u64 0, .int .i64 0, .slice none 0 0, .slice none 0 0] := dp
   refine ⟨0, 0, 0, 0, none, 0, 0, none, 0, 0, ⟨a5.celli 0 rfl rfl, a5.celli 1 rfl rfl, a5.celli 2 rfl rfl, a5.celli 3 rfl rfl, a5.celli 4 rfl rfl, a5.celli 5 rfl rfl, trivial⟩, ?_⟩
   have h := h bv ce
   exact h
  have h := h.2 (beq_f c8)
  unfold Q0q.J3
  obtain ⟨I0, dh, h0, h⟩ := h
  refine ⟨fun k vs ww => ∃ (aq ar ah am : Int) (ae : Option Addr) (ad ag : Nat) (ao : Option Addr) (ap an : Nat) (a6 a8 a0 a4 : Int) (a1 : Option Addr) (a3 a2 : Nat) (a9 : Option Addr) (aa ab : Nat), Blk ww w.heap.size 68 [.slice b8 b1 b7, .int .i64 aj] ∧ Blk ww az.heap.size 77 [.int .i64 aq, .int .i64 ar, .int .u64 ah, .int .i64 am, .slice ae ad ag, .slice ao ap an] ∧ Blk ww ak.heap.size 77 [.int .i64 a6, .int .i64 a8, .int .u64 a0, .int .i64 a4, .slice a1 a3 a2, .slice a9 aa ab] ∧ I0 k (vs ++ [.int .i64 aq, .int .i64 ar, .int .u64 ah, .int .i64 am, .slice ae ad ag, .slice ao ap an, .int .i64 a6, .int .i64 a8, .int .u64 a0, .int .i64 a4, .slice a1 a3 a2, .slice a9 aa ab]) ww, dh, ⟨0, 0, 0, 0, none, 0, 0, none, 0, 0, 3, 0, 0, 0, none, 0, 0, none, 0, 0, al, a5, a7, h0⟩, fun di b6 d2 hI => ?_⟩
  obtain ⟨aq, ar, ah, am, ae, ad, ag, ao, ap, an, a6, a8, a0, a4, a1, a3, a2, a9, aa, ab, al, a5, a7, hI⟩ := hI
  have h := h di b6 d2 aq ar ah am ae ad ag ao ap an a6 a8 a0 a4 a1 a3 a2 a9 aa ab hI
  refine bif_fo (fun c4 => ?_) (fun c4 => ?_)
  ·have h := h.2 (Int.not_lt.1 (of_decide_eq_false c4))
   refine ⟨aj, al.celli 1 rfl rfl, ?_⟩
   refine bif_fo (fun cf => ?_) (fun cf => ?_)
   ·have h := h.2 (bne_f cf)
    refine ⟨a6, a8, a0, a4, a1, a3, a2, a9, aa, ab, ⟨a7.celli 0 rfl rfl, a7.celli 1 rfl rfl, a7.celli 2 rfl rfl, a7.celli 3 rfl rfl, a7.celli 4 rfl rfl, a7.celli 5 rfl rfl, trivial⟩, ?_⟩
    have cd : Ext (fun b => b = az.heap.size) b6 b6 := ((Ext.refl no b6)).none
    refine Q0p (k := 0) (j := 0) a5 (Nat.le_of_ble_eq_true rfl) fun br d7 dd => ?_
    have cb := cd.x_puts d7 (.inl rfl)
    have a5 : Blk br az.heap.size 77 [.int .i64 a6, .int .i64 a8, .int .u64 a0, .int .i64 a4, .slice a1 a3 a2, .slice a9 aa ab] := dd
    refine ⟨a6, a8, a0, a4, a1, a3, a2, a9, aa, ab, ⟨a5.celli 0 rfl rfl, a5.celli 1 rfl rfl, a5.celli 2 rfl rfl, a5.celli 3 rfl rfl, a5.celli 4 rfl rfl, a5.celli 5 rfl rfl, trivial⟩, ?_⟩
    have h := h br cb
    exact h
   have h := h.1 (bne_t cf)
   refine ⟨aj, al.celli 1 rfl rfl, ?_⟩
   obtain ⟨cj, cn, h⟩ := h
   try rw [w64 cj cn]
   refine h.mono fun de db h => ?_
   obtain ⟨bi, be, bd, he, hk, h⟩ := h
   refine ⟨bi, be, bd, he, ?_⟩
   have a5 := hk.blk a5 (by simp)
   have a7 := hk.blk a7 (by simp)
   refine h.mono fun dc dn h => ?_
   obtain ⟨aw, av, ax, he, hk, h⟩ := h
   refine ⟨aw, av, ax, he, ?_⟩
   have a5 := hk.blk a5 (by simp)
   have a7 := hk.blk a7 (by simp)
   refine h.mono fun dl b2 h => ?_
   obtain ⟨ai, af, ac, b5, he, hk, h⟩ := h
   refine ⟨ai, af, ac, b5, he, ?_⟩
   have a5 := hk.blk a5 (by simp)
   have a7 := hk.blk a7 (by simp)
   have cp : Ext (fun b => b = ak.heap.size) b2 b2 := ((Ext.refl no b2)).none
   refine ⟨a7.cani 5 rfl rfl, Q01 fun bs cv => ?_⟩
   have ck := cp.x_set (q := ak.heap.size) (i := 5) rfl (.inl rfl) cv
   have a5 := a5.oth (q := ak.heap.size) (i := 5) rfl au cv
   have a7 : Blk bs ak.heap.size 77 [.int .i64 a6, .int .i64 a8, .int .u64 a0, .int .i64 a4, .slice a1 a3 a2, .slice ai af ac] := a7.seti 5 rfl cv
   refine ⟨a6, a8, a0, a4, a1, a3, a2, ai, af, ac, ⟨a7.celli 0 rfl rfl, a7.celli 1 rfl rfl, a7.celli 2 rfl rfl, a7.celli 3 rfl rfl, a7.celli 4 rfl rfl, a7.celli 5 rfl rfl, trivial⟩, ?_⟩
   have ch : Ext (fun b => b = az.heap.size ∨ b = ak.heap.size) b2 bs := (ck).mono fun _ h _ => .inr h
   refine Q0p (k := 0) (j := 0) a5 (Nat.le_of_ble_eq_true rfl) fun bt d5 dg => ?_
   have cm := ch.x_puts d5 (.inl (.inl rfl))
   have a5 : Blk bt az.heap.size 77 [.int .i64 a6, .int .i64 a8, .int .u64 a0, .int .i64 a4, .slice a1 a3 a2, .slice ai af ac] := dg
   refine ⟨a6, a8, a0, a4, a1, a3, a2, ai, af, ac, ⟨a5.celli 0 rfl rfl, a5.celli 1 rfl rfl, a5.celli 2 rfl rfl, a5.celli 3 rfl rfl, a5.celli 4 rfl rfl, a5.celli 5 rfl rfl, trivial⟩, ?_⟩
   have h := h bt cm
   exact h
  have h := h.1 (of_decide_eq_true c4)
  unfold Q0q.J2
  obtain ⟨dq, bu, h⟩ := h
  refine Q06 bu ?_
  obtain ⟨co, c3, h⟩ := h
  refine ⟨co, c3, ?_⟩
  obtain ⟨ay, cs, h⟩ := h
  refine ⟨ay, cs, ?_⟩
  refine h.mono fun d4 b4 h => ?_
  obtain ⟨b3, b9, b0, bl, he, hk, h⟩ := h
  refine ⟨b3, b9, b0, bl, he, ?_⟩
  have al := hk.blk al (by simp)
  have a5 := hk.blk a5 (by simp)
  have a7 := hk.blk a7 (by simp)
  refine bif_of (fun ct => ?_) (fun ct => ?_)
  ·have h := h.1 (bne_t ct)
   have c6 : Ext (fun b => b = az.heap.size) b4 b4 := ((Ext.refl no b4)).none
   refine Q0p (k := 0) (j := 0) a5 (Nat.le_of_ble_eq_true rfl) fun bx d0 dj => ?_
   have cq := c6.x_puts d0 (.inl rfl)
   have a5 : Blk bx az.heap.size 77 [.int .i64 0, .int .i64 0, .int .u64 0, .int .i64 0, .slice none 0 0, .slice none 0 0] := dj
   refine ⟨0, 0, 0, 0, none, 0, 0, none, 0, 0, ⟨a5.celli 0 rfl rfl, a5.celli 1 rfl rfl, a5.celli 2 rfl rfl, a5.celli 3 rfl rfl, a5.celli 4 rfl rfl, a5.celli 5 rfl rfl, trivial⟩, ?_⟩
   have h := h bx cq
   exact h
  have h := h.2 (bne_f ct)
  unfold Q0q.J1
  refine Q01 fun c5 c1 => ?_
  have bj := (Ext.refl no b4).x_drew c1
  have al := al.x_drew c1
  have a5 := a5.x_drew c1
  have a7 := a7.x_drew c1
  refine ⟨a1, a3, a2, a7.celli 4 rfl rfl, ?_⟩
  refine Q06 bu ?_
  obtain ⟨co, c3, h⟩ := h
  refine ⟨co, c3, ?_⟩
  obtain ⟨bq, cr, h⟩ := h
  refine ⟨bq, (bj).cell cr id, ?_⟩
  refine Q01 fun cc bp => ?_
  have al := al.x_alloc bp
  have a5 := a5.x_alloc bp
  have a7 := a7.x_alloc bp
  have h := h cc c5.heap.size (bj.x_alloc bp) (Blk.of_new bp) (bj).size (Q0w bp)
  refine ⟨a7.celli 4 rfl rfl, ?_⟩
  obtain ⟨bo, bn, bf, ba, hr, hk, h⟩ := h
  refine ⟨bo, bn, bf, ba, hr, ?_⟩
  have al := hk.blk al (by simp)
  have a5 := hk.blk a5 (by simp)
  have a7 := hk.blk a7 (by simp)
  have c7 : Ext (fun b => b = ak.heap.size) ba ba := ((Ext.refl no ba)).none
  refine ⟨a7.cani 4 rfl rfl, Q01 fun bz c2 => ?_⟩
  have ca := c7.x_set (q := ak.heap.size) (i := 4) rfl (.inl rfl) c2
  have al := al.oth (q := ak.heap.size) (i := 4) rfl bc c2
  have a5 := a5.oth (q := ak.heap.size) (i := 4) rfl au c2
  have a7 : Blk bz ak.heap.size 77 [.int .i64 a6, .int .i64 a8, .int .u64 a0, .int .i64 a4, .slice bo bn bf, .slice a9 aa ab] := a7.seti 4 rfl c2
  obtain ⟨cj, cn, h⟩ := h
  try rw [w64 cj cn]
  have h := h bz ca
  obtain ⟨d3, hk, h⟩ := h
  exact ⟨d3, hk, aq, ar, ah, am, ae, ad, ag, ao, ap, an, a6, a8, a0, a4, bo, bn, bf, a9, aa, ab, al, a5, a7, h⟩

theorem Q0q.go (o1 a3 : Option Addr) (a2 a4 : Nat) (a0 a1 : Int) {R : RW} {w : World} (h : Q0q.N o1 a3 a2 a4 a0 a1 R w) : Calls Try.prog 22 #[.pointer o1, .agg #[.slice a3 a2 a4, .int .i64 a0], .int .u64 a1] w fun e w' => ∃ v, e = .returned v ∧ R v w' := Q0q.ok o1 a3 a2 a4 a0 a1 (Q0q.up o1 a3 a2 a4 a0 a1 h)
abbrev Q0a.J1 (a0 : Int) (I2 : Nat → List Value → World → Prop) (av : Int) (aq bb : Option Addr) (b9 : Nat) (R : RW) (b0 : World) : Prop :=
 thenW (b0.drew) fun a9 =>
 aq.elim False fun az =>
 ∃ (a5 : Option Addr) (a3 aa : Nat), a9.cell? (az.add 2) = some (.slice a5 a3 aa) ∧
 a5.elim False fun aw =>
 0 ≤ (a0 : Int) ∧ (a0 : Int) < (a3 : Int) ∧
 ∃ (ar : Int), a9.cell? (aw.add (Int.toNat a0 * 1)) = some (.int .u64 ar) ∧
 aq.elim False fun au =>
 ∃ (a4 : Option Addr) (a2 ac : Nat), a9.cell? (au.add 3) = some (.slice a4 a2 ac) ∧
 a4.elim False fun ax =>
 0 ≤ (a0 : Int) ∧ (a0 : Int) < (a2 : Int) ∧
 ∃ (an : Option Addr) (al ak : Nat), a9.cell? (ax.add (Int.toNat a0 * 1)) = some (.slice an al ak) ∧
 Calls Try.prog 48 #[.int .u64 (IntKind.u64.wrap a0)] a9 fun ay a8 => ∃ (ag : Option Addr) (af ah : Nat), ay = .returned (.slice ag af ah) ∧
 a8.cell? (ax.add (Int.toNat a0 * 1)) = some (.slice an al ak) ∧
 a8.cell? (au.add 3) = some (.slice a4 a2 ac) ∧
 a8.cell? (aw.add (Int.toNat a0 * 1)) = some (.int .u64 ar) ∧
 a8.cell? (az.add 2) = some (.slice a5 a3 aa) ∧
 Calls Try.prog 63 #[.pointer bb, .int .u64 ar, .slice ag af ah, .slice an al ak] a8 fun b6 am => ∃ (a6 : Option Addr) (a1 ai : Nat) (ad : Int), b6 = .returned (.tuple #[.slice a6 a1 ai, .int .i64 ad]) ∧
 bif ad != 0 then (
 R (.int .i64 av) am) else (
 bif (a1 : Int) != 8 then (
 R (.int .i64 av) am) else (
 ∃ (I4 : Nat → List Value → World → Prop) (bc : Nat), I4 bc [.int .u64 0, .int .i64 0] am ∧ ∀ (b5 : Nat) (a7 : World) (ap aj : Int), I4 b5 [.int .u64 ap, .int .i64 aj] a7 →
 bif decide (aj < 8) then (
 a6.elim False fun b8 =>
 0 ≤ (aj : Int) ∧ (aj : Int) < (a1 : Int) ∧
 ∃ (b3 : Int), a7.cell? (b8.add (Int.toNat aj * 1)) = some (.int .u8 b3) ∧
 ∃ b4, b4 < b5 ∧ I4 b4 [.int .u64 (IntKind.u64.wrap ((IntKind.u64.wrap (ap * 256)) + (IntKind.u64.wrap b3))), .int .i64 (IntKind.i64.wrap (aj + 1))] a7) else (
 aq.elim False fun ba =>
 ∃ (ab : Option Addr) (ae ao : Nat), a7.cell? (ba.add 2) = some (.slice ab ae ao) ∧
 ab.elim False fun b2 =>
 0 ≤ ((IntKind.i64.wrap (a0 - 1)) : Int) ∧ ((IntKind.i64.wrap (a0 - 1)) : Int) < (ae : Int) ∧
 Q0d a7 ((b2.add (Int.toNat (IntKind.i64.wrap (a0 - 1)) * 1)).add 0) ∧
 thenW (a7.setCell ((b2.add (Int.toNat (IntKind.i64.wrap (a0 - 1)) * 1)).add 0) (.int .u64 ap)) fun b1 =>
 ∃ b7, b7 < b9 ∧ I2 b7 [.int .i64 (IntKind.i64.wrap (a0 - 1))] b1)))

abbrev Q0a.J2 (ab : Int) (ac al : Option Addr) (R : RW) (ad : World) : Prop :=
 ac.elim False fun ai =>
 ∃ (a8 : Option Addr) (a5 a7 : Nat), ad.cell? (ai.add 2) = some (.slice a8 a5 a7) ∧
 ∃ (I2 : Nat → List Value → World → Prop) (aj : Nat), I2 aj [.int .i64 (IntKind.i64.wrap ((a5 : Int) - 1))] ad ∧ ∀ (ae : Nat) (a0 : World) (a1 : Int), I2 ae [.int .i64 a1] a0 →
 bif decide (a1 > 0) then (
 ac.elim False fun am =>
 ∃ (a6 : Option Addr) (a2 aa : Nat), a0.cell? (am.add 2) = some (.slice a6 a2 aa) ∧
 a6.elim False fun an =>
 0 ≤ (a1 : Int) ∧ (a1 : Int) < (a2 : Int) ∧
 ∃ (ag : Int), a0.cell? (an.add (Int.toNat a1 * 1)) = some (.int .u64 ag) ∧
 bif ag != 0 then (
 ac.elim False fun ah =>
 ∃ (a3 : Option Addr) (a4 a9 : Nat), a0.cell? (ah.add 2) = some (.slice a3 a4 a9) ∧
 a3.elim False fun ak =>
 0 ≤ ((IntKind.i64.wrap (a1 - 1)) : Int) ∧ ((IntKind.i64.wrap (a1 - 1)) : Int) < (a4 : Int) ∧
 ∃ (af : Int), a0.cell? (ak.add (Int.toNat (IntKind.i64.wrap (a1 - 1)) * 1)) = some (.int .u64 af) ∧
 bif af == 0 then (
 Q0a.J1 a1 I2 ab ac al ae R a0) else (
 R (.int .i64 ab) a0)) else (
 R (.int .i64 ab) a0)) else (
 R (.int .i64 ab) a0)

abbrev Q0a.J3 (bi : Addr) (b7 br : Option Addr) (R : RW) (bn : World) : Prop :=
 ∃ (I0 : Nat → List Value → World → Prop) (bs : Nat), I0 bs [.int .u64 0, .int .i64 11, .int .i64 0] bn ∧ ∀ (bq : Nat) (al : World) (ao bm aw : Int), I0 bq [.int .u64 ao, .int .i64 bm, .int .i64 aw] al →
 ∃ (am : Option Addr) (ad ap : Nat), al.cell? (bi.add 4) = some (.slice am ad ap) ∧
 bif decide (aw < (ad : Int)) then (
 thenW (al.drew) fun ar =>
 ∃ (a4 : Option Addr) (a3 aj : Nat), ar.cell? (bi.add 4) = some (.slice a4 a3 aj) ∧
 a4.elim False fun bo =>
 0 ≤ (aw : Int) ∧ (aw : Int) < (a3 : Int) ∧
 ∃ (aq : Int), ar.cell? ((bo.add (Int.toNat aw * 2)).add 0) = some (.int .i64 aq) ∧
 b7.elim False fun bj =>
 ∃ (au : Int), ar.cell? (bj.add 0) = some (.int .i64 au) ∧
 bif aq == au then (
 thenW (ar.drew) fun ah =>
 b7.elim False fun bl =>
 ∃ (a7 : Int), ah.cell? (bl.add 1) = some (.int .u64 a7) ∧
 ∃ (a6 : Option Addr) (a5 ak : Nat), ah.cell? (bi.add 4) = some (.slice a6 a5 ak) ∧
 a6.elim False fun bp =>
 0 ≤ (aw : Int) ∧ (aw : Int) < (a5 : Int) ∧
 ∃ (b3 : Option Addr) (ay b0 : Nat), ah.cell? ((bp.add (Int.toNat aw * 2)).add 1) = some (.slice b3 ay b0) ∧
 Calls Try.prog 62 #[.pointer br, .int .u64 a7, .slice b3 ay b0] ah fun b8 bb => ∃ (a8 a9 : Int), b8 = .returned (.tuple #[.int .u64 a8, .int .i64 a9]) ∧
 ∃ bd, bd < bq ∧ I0 bd [.int .u64 a8, .int .i64 a9, .int .i64 (IntKind.i64.wrap (aw + 1))] bb) else (
 ∃ b9, b9 < bq ∧ I0 b9 [.int .u64 ao, .int .i64 bm, .int .i64 (IntKind.i64.wrap (aw + 1))] ar)) else (
 b7.elim False fun bk =>
 ∃ (ab : Option Addr) (ac aa : Nat), al.cell? (bk.add 2) = some (.slice ab ac aa) ∧
 thenW (al.alloc (.cells #[.int .u64 ao] 36)) fun bf =>
 ∃ (b4 : Option Addr) (b1 ax : Nat) (an : World), (Builtin.append_ #[22, 22] 22 #[.slice ab ac aa, .slice (some (blk al.heap.size)) 1 1]).run Try.prog bf = .ok (.slice b4 b1 ax) an ∧
 b7.elim False fun bh =>
 Q0d an ((bh.add 2).add 0) ∧
 thenW (an.setCell ((bh.add 2).add 0) (.slice b4 b1 ax)) fun be =>
 thenW (be.drew) fun ae =>
 b7.elim False fun ba =>
 ∃ (a2 : Option Addr) (a1 a0 : Nat), ae.cell? (ba.add 3) = some (.slice a2 a1 a0) ∧
 ∃ (af : Option Addr) (ai ag : Nat), ae.cell? (bi.add 5) = some (.slice af ai ag) ∧
 thenW (ae.alloc (.cells #[.slice af ai ag] 25)) fun b2 =>
 b2.cell? (ba.add 3) = some (.slice a2 a1 a0) ∧
 ∃ (b5 : Option Addr) (az b6 : Nat) (av : World), (Builtin.append_ #[59, 59] 59 #[.slice a2 a1 a0, .slice (some (blk ae.heap.size)) 1 1]).run Try.prog b2 = .ok (.slice b5 az b6) av ∧
 b7.elim False fun bc =>
 Q0d av ((bc.add 3).add 0) ∧
 thenW (av.setCell ((bc.add 3).add 0) (.slice b5 az b6)) fun bg =>
 Q0a.J2 bm b7 br R bg)

abbrev Q0a.J4 (a7 : Addr) (a4 a5 : Option Addr) (R : RW) (a3 : World) : Prop :=
 a4.elim False fun a6 =>
 ∃ (a1 : Option Addr) (a0 a2 : Nat), a3.cell? (a6.add 2) = some (.slice a1 a0 a2) ∧
 bif decide ((a0 : Int) ≥ 20) then (
 R (.int .i64 3) a3) else (
 Q0a.J3 a7 a4 a5 R a3)

def Q0a.M (r1 o2 : Option Addr) (al am ad ah : Int) (ae : Option Addr) (ac ab : Nat) (aj : Option Addr) (ai ak : Nat) (R : RW) (w : World) : Prop :=
 thenW (w.alloc (.cells #[.int .i64 al, .int .i64 am, .int .u64 ad, .int .i64 ah, .slice ae ac ab, .slice aj ai ak] 77)) fun ao =>
 ∃ (a5 af a1 a4 : Int) (a0 : Option Addr) (a3 a2 : Nat) (a7 : Option Addr) (a6 a8 : Nat), cellsAt ao (blk w.heap.size) [.int .i64 a5, .int .i64 af, .int .u64 a1, .int .i64 a4, .slice a0 a3 a2, .slice a7 a6 a8] 0 ∧
 Calls Try.prog 54 #[.agg #[.int .i64 a5, .int .i64 af, .int .u64 a1, .int .i64 a4, .slice a0 a3 a2, .slice a7 a6 a8]] ao fun an ag => ∃ (a9 : Bool), an = .returned (.bool a9) ∧
 bif !a9 then (
 R (.int .i64 1) ag) else (
 ∃ (aa : Int), ag.cell? ((blk w.heap.size).add 0) = some (.int .i64 aa) ∧
 bif aa != 3 then (
 R (.int .i64 1) ag) else (
 Q0a.J4 (blk w.heap.size) r1 o2 R ag))

theorem Q0a.ok (r1 o2 : Option Addr) (a7 a9 a3 a4 : Int) (a2 : Option Addr) (a1 a0 : Nat) (a6 : Option Addr) (a8 a5 : Nat) {R : RW} {w : World} (h : Q0a.M r1 o2 a7 a9 a3 a4 a2 a1 a0 a6 a8 a5 R w) : Calls Try.prog 26 #[.pointer r1, .pointer o2, .agg #[.int .i64 a7, .int .i64 a9, .int .u64 a3, .int .i64 a4, .slice a2 a1 a0, .slice a6 a8 a5]] w fun e w' => ∃ v, e = .returned v ∧ R v w' :=
  Q0i follows (H := [(0, [0, 1, 5], [(7, (.one (.int .u64))), (8, (.one (.int .i64))), (9, (.one (.int .i64)))]), (2, [0, 1, 8], [(10, (.one (.int .i64)))]), (4, [0, 1, 8, 10, 11], [(13, (.one (.int .u64))), (14, (.one (.int .i64)))])]) (args := [.pointer r1, .pointer o2, .agg #[.int .i64 a7, .int .i64 a9, .int .u64 a3, .int .i64 a4, .slice a2 a1 a0, .slice a6 a8 a5]]) (cast (by kernel_rfl) h)

def Q0a.N (r1 o2 : Option Addr) (ar cd bf bq : Int) (ao : Option Addr) (a1 bd : Nat) (b5 : Option Addr) (ba b6 : Nat) (R : RW) (w : World) : Prop :=
 ∀ (cp : World) (cb : Nat), Ext no w cp → Priv w cp [cb] →
 Calls Try.prog 54 #[.agg #[.int .i64 ar, .int .i64 cd, .int .u64 bf, .int .i64 bq, .slice ao a1 bd, .slice b5 ba b6]] cp fun ct b3 => ∃ (ai : Bool), ct = .returned (.bool ai) ∧
 Keep [cb] cp b3 ∧
 (ai = false →
 R (.int .i64 1) b3) ∧
 (ai = true →
 (ar ≠ 3 →
 R (.int .i64 1) b3) ∧
 (ar = 3 →
 ∃ a6 : Addr, r1 = some a6 ∧
 ∃ (bm : Option Addr) (ac bs : Nat), b3.cell? (a6.add 2) = some (.slice bm ac bs) ∧
 ((ac : Int) ≥ 20 →
 R (.int .i64 3) b3) ∧
 ((ac : Int) < 20 →
 ∃ (I0 : Nat → List Value → World → Prop) (d9 : Nat), I0 d9 [.int .u64 0, .int .i64 11, .int .i64 0] b3 ∧ ∀ (d1 : Nat) (a5 : World) (b8 bx aq : Int), I0 d1 [.int .u64 b8, .int .i64 bx, .int .i64 aq] a5 →
 (aq < (a1 : Int) →
 ∃ cy : Addr, ao = some cy ∧
 0 ≤ (aq : Int) ∧ (aq : Int) < (a1 : Int) ∧
 ∃ (bg : Int), a5.cell? ((cy.add (Int.toNat aq * 2)).add 0) = some (.int .i64 bg) ∧
 ∃ (bh : Int), a5.cell? (a6.add 0) = some (.int .i64 bh) ∧
 (bg = bh →
 ∃ (an : Int), a5.cell? (a6.add 1) = some (.int .u64 an) ∧
 0 ≤ (aq : Int) ∧ (aq : Int) < (a1 : Int) ∧
 ∃ (c5 : Option Addr) (co cc : Nat), a5.cell? ((cy.add (Int.toNat aq * 2)).add 1) = some (.slice c5 co cc) ∧
 ∀ (bv : World), Ext no a5 bv →
 Calls Try.prog 62 #[.pointer o2, .int .u64 an, .slice c5 co cc] bv fun d2 c9 => ∃ (ak ap : Int), d2 = .returned (.tuple #[.int .u64 ak, .int .i64 ap]) ∧
 Keep [cb] bv c9 ∧
 (-9223372036854775808 : Int) ≤ (aq + 1) ∧ (aq + 1) < 9223372036854775808 ∧
 ∃ d6, d6 < d1 ∧ I0 d6 [.int .u64 ak, .int .i64 ap, .int .i64 (aq + 1)] c9) ∧
 (bg ≠ bh →
 (-9223372036854775808 : Int) ≤ (aq + 1) ∧ (aq + 1) < 9223372036854775808 ∧
 ∀ (ch : World), Ext no a5 ch →
 ∃ d5, d5 < d1 ∧ I0 d5 [.int .u64 b8, .int .i64 bx, .int .i64 (aq + 1)] ch)) ∧
 ((a1 : Int) ≤ aq →
 ∃ (b2 : Option Addr) (ay ax : Nat), a5.cell? (a6.add 2) = some (.slice b2 ay ax) ∧
 ∀ (b4 : World) (cr : Nat), Ext no a5 b4 → Blk b4 cr 36 [.int .u64 b8] → a5.heap.size ≤ cr → cr < b4.heap.size →
 ∃ (c6 : Option Addr) (cn cm : Nat) (bp : World), (Builtin.append_ #[22, 22] 22 #[.slice b2 ay ax, .slice (some (blk cr)) 1 1]).run Try.prog b4 = .ok (.slice c6 cn cm) bp ∧
 Keep [cb] b4 bp ∧
 Q0d bp ((a6.add 2).add 0) ∧
 (∀ p ∈ [cb], p ≠ Addr.block (a6.add 2)) ∧
 thenW (bp.setCell ((a6.add 2).add 0) (.slice c6 cn cm)) fun c2 =>
 ∃ (ab : Option Addr) (ah ae : Nat), c2.cell? (a6.add 3) = some (.slice ab ah ae) ∧
 ∀ (bk : World) (cq : Nat), Ext no c2 bk → Blk bk cq 25 [.slice b5 ba b6] → c2.heap.size ≤ cq → cq < bk.heap.size →
 bk.cell? (a6.add 3) = some (.slice ab ah ae) ∧
 ∃ (cf : Option Addr) (ci c4 : Nat) (c1 : World), (Builtin.append_ #[59, 59] 59 #[.slice ab ah ae, .slice (some (blk cq)) 1 1]).run Try.prog bk = .ok (.slice cf ci c4) c1 ∧
 Q0d c1 ((a6.add 3).add 0) ∧
 thenW (c1.setCell ((a6.add 3).add 0) (.slice cf ci c4)) fun cj =>
 ∃ (bl : Option Addr) (a4 br : Nat), cj.cell? (a6.add 2) = some (.slice bl a4 br) ∧
 (-9223372036854775808 : Int) ≤ ((a4 : Int) - 1) ∧ ((a4 : Int) - 1) < 9223372036854775808 ∧
 ∃ (I2 : Nat → List Value → World → Prop) (d8 : Nat), I2 d8 [.int .i64 ((a4 : Int) - 1)] cj ∧ ∀ (d7 : Nat) (a3 : World) (a0 : Int), I2 d7 [.int .i64 a0] a3 →
 (a0 > 0 →
 ∃ (b0 : Option Addr) (aw bo : Nat), a3.cell? (a6.add 2) = some (.slice b0 aw bo) ∧
 ∃ d4 : Addr, b0 = some d4 ∧
 0 ≤ (a0 : Int) ∧ (a0 : Int) < (aw : Int) ∧
 ∃ (cs : Int), a3.cell? (d4.add (Int.toNat a0 * 1)) = some (.int .u64 cs) ∧
 (cs ≠ 0 →
 ∃ (av : Option Addr) (az bn : Nat), a3.cell? (a6.add 2) = some (.slice av az bn) ∧
 (-9223372036854775808 : Int) ≤ (a0 - 1) ∧ (a0 - 1) < 9223372036854775808 ∧
 ∃ d3 : Addr, av = some d3 ∧
 0 ≤ ((a0 - 1) : Int) ∧ ((a0 - 1) : Int) < (az : Int) ∧
 ∃ (cx : Int), a3.cell? (d3.add (Int.toNat (a0 - 1) * 1)) = some (.int .u64 cx) ∧
 (cx = 0 →
 ∃ (af : Option Addr) (ag b1 : Nat), a3.cell? (a6.add 2) = some (.slice af ag b1) ∧
 ∃ cz : Addr, af = some cz ∧
 0 ≤ (a0 : Int) ∧ (a0 : Int) < (ag : Int) ∧
 ∃ (cu : Int), a3.cell? (cz.add (Int.toNat a0 * 1)) = some (.int .u64 cu) ∧
 ∃ (aa : Option Addr) (ad au : Nat), a3.cell? (a6.add 3) = some (.slice aa ad au) ∧
 ∃ d0 : Addr, aa = some d0 ∧
 0 ≤ (a0 : Int) ∧ (a0 : Int) < (ad : Int) ∧
 ∃ (bu : Option Addr) (bt c0 : Nat), a3.cell? (d0.add (Int.toNat a0 * 1)) = some (.slice bu bt c0) ∧
 ∀ (ca : World), Ext no a3 ca →
 Calls Try.prog 48 #[.int .u64 (IntKind.u64.wrap a0)] ca fun cv b7 => ∃ (bc : Option Addr) (bb be : Nat), cv = .returned (.slice bc bb be) ∧
 b7.cell? (d0.add (Int.toNat a0 * 1)) = some (.slice bu bt c0) ∧
 b7.cell? (a6.add 3) = some (.slice aa ad au) ∧
 b7.cell? (cz.add (Int.toNat a0 * 1)) = some (.int .u64 cu) ∧
 b7.cell? (a6.add 2) = some (.slice af ag b1) ∧
 Calls Try.prog 63 #[.pointer o2, .int .u64 cu, .slice bc bb be, .slice bu bt c0] b7 fun cl b9 => ∃ (aj : Option Addr) (a2 bi : Nat) (a8 : Int), cl = .returned (.tuple #[.slice aj a2 bi, .int .i64 a8]) ∧
 (a8 ≠ 0 →
 R (.int .i64 bx) b9) ∧
 (a8 = 0 →
 ((a2 : Int) ≠ 8 →
 R (.int .i64 bx) b9) ∧
 ((a2 : Int) = 8 →
 ∃ (I4 : Nat → List Value → World → Prop) (cw : Nat), I4 cw [.int .u64 0, .int .i64 0] b9 ∧ ∀ (c7 : Nat) (a7 : World) (bz a9 : Int), I4 c7 [.int .u64 bz, .int .i64 a9] a7 →
 (a9 < 8 →
 ∃ cg : Addr, aj = some cg ∧
 0 ≤ (a9 : Int) ∧ (a9 : Int) < (a2 : Int) ∧
 ∃ (c8 : Int), a7.cell? (cg.add (Int.toNat a9 * 1)) = some (.int .u8 c8) ∧
 (-9223372036854775808 : Int) ≤ (a9 + 1) ∧ (a9 + 1) < 9223372036854775808 ∧
 ∃ ce, ce < c7 ∧ I4 ce [.int .u64 (IntKind.u64.wrap ((IntKind.u64.wrap (bz * 256)) + (IntKind.u64.wrap c8))), .int .i64 (a9 + 1)] a7) ∧
 ((8 : Int) ≤ a9 →
 ∃ (al : Option Addr) (am bj : Nat), a7.cell? (a6.add 2) = some (.slice al am bj) ∧
 (-9223372036854775808 : Int) ≤ (a0 - 1) ∧ (a0 - 1) < 9223372036854775808 ∧
 ∃ bw : Addr, al = some bw ∧
 0 ≤ ((a0 - 1) : Int) ∧ ((a0 - 1) : Int) < (am : Int) ∧
 Q0d a7 ((bw.add (Int.toNat (a0 - 1) * 1)).add 0) ∧
 thenW (a7.setCell ((bw.add (Int.toNat (a0 - 1) * 1)).add 0) (.int .u64 bz)) fun ck =>
 (-9223372036854775808 : Int) ≤ (a0 - 1) ∧ (a0 - 1) < 9223372036854775808 ∧
 ∃ c3, c3 < d7 ∧ I2 c3 [.int .i64 (a0 - 1)] ck)))) ∧
 (cx ≠ 0 →
 R (.int .i64 bx) a3)) ∧
 (cs = 0 →
 R (.int .i64 bx) a3)) ∧
 (a0 ≤ 0 →
 R (.int .i64 bx) a3)))))

theorem Q0a.up (r1 o2 : Option Addr) (aa ad a4 a6 : Int) (a2 : Option Addr) (a1 a0 : Nat) (a7 : Option Addr) (a9 a8 : Nat) {R : RW} {w : World} (h : Q0a.N r1 o2 aa ad a4 a6 a2 a1 a0 a7 a9 a8 R w) : Q0a.M r1 o2 aa ad a4 a6 a2 a1 a0 a7 a9 a8 R w := by
  unfold Q0a.M
  unfold Q0a.N at h
  refine Q01 fun e4 e9 => ?_
  have a3 := Blk.of_new e9
  have eh := ((Ext.refl no w)).size
  have eo := (Ext.refl no w).x_alloc e9
  refine ⟨aa, ad, a4, a6, a2, a1, a0, a7, a9, a8, ⟨a3.celli 0 rfl rfl, a3.celli 1 rfl rfl, a3.celli 2 rfl rfl, a3.celli 3 rfl rfl, a3.celli 4 rfl rfl, a3.celli 5 rfl rfl, trivial⟩, ?_⟩
  have h := h e4 (w.heap.size) eo (Priv.cons eh a3.lt Priv.nil)
  refine h.mono fun eb em h => ?_
  obtain ⟨bj, he, hk, h⟩ := h
  refine ⟨bj, he, ?_⟩
  have a3 := hk.blk a3 (by simp)
  refine bif_of (fun d9 => ?_) (fun d9 => ?_)
  ·have h := h.1 (not_t d9)
   exact h
  have h := h.2 (not_f d9)
  refine ⟨aa, a3.celli 0 rfl rfl, ?_⟩
  refine bif_of (fun cu => ?_) (fun cu => ?_)
  ·have h := h.1 (bne_t cu)
   exact h
  have h := h.2 (bne_f cu)
  unfold Q0a.J4
  obtain ⟨eu, a5, h⟩ := h
  refine Q06 a5 ?_
  obtain ⟨aw, b4, bc, cm, h⟩ := h
  refine ⟨aw, b4, bc, cm, ?_⟩
  refine bif_of (fun dt => ?_) (fun dt => ?_)
  ·have h := h.1 (of_decide_eq_true dt)
   exact h
  have h := h.2 (Int.not_le.1 (of_decide_eq_false dt))
  unfold Q0a.J3
  obtain ⟨I0, et, h0, h⟩ := h
  refine ⟨fun k vs ww => Blk ww w.heap.size 77 [.int .i64 aa, .int .i64 ad, .int .u64 a4, .int .i64 a6, .slice a2 a1 a0, .slice a7 a9 a8] ∧ I0 k vs ww, et, ⟨a3, h0⟩, fun er ah bu eg el hI => ?_⟩
  obtain ⟨a3, hI⟩ := hI
  have h := h er ah bu eg el hI
  refine ⟨a2, a1, a0, a3.celli 4 rfl rfl, ?_⟩
  refine bif_of (fun cc => ?_) (fun cc => ?_)
  ·have h := h.1 (of_decide_eq_true cc)
   refine Q01 fun d7 e1 => ?_
   have b1 := (Ext.refl no ah).x_drew e1
   have a3 := a3.x_drew e1
   refine ⟨a2, a1, a0, a3.celli 4 rfl rfl, ?_⟩
   obtain ⟨ex, bw, h⟩ := h
   refine Q06 bw ?_
   obtain ⟨ac, ab, h⟩ := h
   refine ⟨ac, ab, ?_⟩
   obtain ⟨bz, dg, h⟩ := h
   refine ⟨bz, (b1).cell dg id, ?_⟩
   refine Q06 a5 ?_
   obtain ⟨c1, dc, h⟩ := h
   refine ⟨c1, (b1).cell dc id, ?_⟩
   refine bif_fo (fun de => ?_) (fun de => ?_)
   ·have h := h.2 (beq_f de)
    obtain ⟨ae, af, h⟩ := h
    try rw [w64 ae af]
    have h := h d7 b1
    obtain ⟨e5, hk, h⟩ := h
    exact ⟨e5, hk, a3, h⟩
   have h := h.1 (beq_t de)
   refine Q01 fun ck dx => ?_
   have bp := b1.x_drew dx
   have a3 := a3.x_drew dx
   refine Q06 a5 ?_
   obtain ⟨am, cv, h⟩ := h
   refine ⟨am, (bp).cell cv id, ?_⟩
   refine ⟨a2, a1, a0, a3.celli 4 rfl rfl, ?_⟩
   refine Q06 bw ?_
   obtain ⟨ac, ab, h⟩ := h
   refine ⟨ac, ab, ?_⟩
   obtain ⟨ca, dv, cs, cw, h⟩ := h
   refine ⟨ca, dv, cs, (bp).cell cw id, ?_⟩
   have h := h ck bp
   refine h.mono fun es e8 h => ?_
   obtain ⟨aj, ap, he, hk, h⟩ := h
   refine ⟨aj, ap, he, ?_⟩
   have a3 := hk.blk a3 (by simp)
   obtain ⟨ae, af, h⟩ := h
   try rw [w64 ae af]
   obtain ⟨ee, hk, h⟩ := h
   exact ⟨ee, hk, a3, h⟩
  have h := h.2 (Int.not_lt.1 (of_decide_eq_false cc))
  refine Q06 a5 ?_
  obtain ⟨bg, b6, b5, cp, h⟩ := h
  refine ⟨bg, b6, b5, cp, ?_⟩
  refine Q01 fun ce c3 => ?_
  have a3 := a3.x_alloc c3
  have h := h ce ah.heap.size ((Ext.refl no ah).x_alloc c3) (Blk.of_new c3) ((Ext.refl no ah)).size (Q0w c3)
  obtain ⟨cd, dr, dm, co, hr, hk, h⟩ := h
  refine ⟨cd, dr, dm, co, hr, ?_⟩
  have a3 := hk.blk a3 (by simp)
  refine Q06 a5 ?_
  obtain ⟨hcs, hof, h⟩ := h
  refine ⟨hcs, Q01 fun dj dy => ?_⟩
  replace h := Q1c h dy
  have a3 := a3.off (by rw [Q18]; exact hof _ (by simp)) dy
  refine Q01 fun ds e0 => ?_
  have bk := (Ext.refl no dj).x_drew e0
  have a3 := a3.x_drew e0
  refine Q06 a5 ?_
  obtain ⟨b3, bi, bb, dk, h⟩ := h
  refine ⟨b3, bi, bb, (bk).cell dk id, ?_⟩
  refine ⟨a7, a9, a8, a3.celli 5 rfl rfl, ?_⟩
  refine Q01 fun du dq => ?_
  have h := h du ds.heap.size (bk.x_alloc dq) (Blk.of_new dq) (bk).size (Q0w dq)
  obtain ⟨d5, h⟩ := h
  refine ⟨d5, ?_⟩
  obtain ⟨d3, db, c8, di, hr, h⟩ := h
  refine ⟨d3, db, c8, di, hr, ?_⟩
  refine Q06 a5 ?_
  obtain ⟨hcs, h⟩ := h
  refine ⟨hcs, Q01 fun eq en => ?_⟩
  replace h := Q1c h en
  unfold Q0a.J2
  refine Q06 a5 ?_
  obtain ⟨ar, be, b7, cq, h⟩ := h
  refine ⟨ar, be, b7, cq, ?_⟩
  obtain ⟨ae, af, h⟩ := h
  try rw [w64 ae af]
  obtain ⟨I2, ef, h0, h⟩ := h
  refine ⟨I2, ef, h0, fun ep bt cj hI => ?_⟩
  have h := h ep bt cj hI
  refine bif_fo (fun cl => ?_) (fun cl => ?_)
  ·have h := h.2 (Int.not_lt.1 (of_decide_eq_false cl))
   exact h
  have h := h.1 (of_decide_eq_true cl)
  refine Q06 a5 ?_
  obtain ⟨ba, b2, az, cr, h⟩ := h
  refine ⟨ba, b2, az, cr, ?_⟩
  obtain ⟨ew, dw, h⟩ := h
  refine Q06 dw ?_
  obtain ⟨ac, ab, h⟩ := h
  refine ⟨ac, ab, ?_⟩
  obtain ⟨e7, dn, h⟩ := h
  refine ⟨e7, dn, ?_⟩
  refine bif_fo (fun dd => ?_) (fun dd => ?_)
  ·have h := h.2 (bne_f dd)
   exact h
  have h := h.1 (bne_t dd)
  refine Q06 a5 ?_
  obtain ⟨ax, b8, ay, dh, h⟩ := h
  refine ⟨ax, b8, ay, dh, ?_⟩
  obtain ⟨ae, af, h⟩ := h
  try rw [w64 ae af]
  obtain ⟨ev, ct, h⟩ := h
  refine Q06 ct ?_
  obtain ⟨ac, ab, h⟩ := h
  refine ⟨ac, ab, ?_⟩
  obtain ⟨ej, c7, h⟩ := h
  refine ⟨ej, c7, ?_⟩
  refine bif_fo (fun dp => ?_) (fun dp => ?_)
  ·have h := h.2 (beq_f dp)
   exact h
  have h := h.1 (beq_t dp)
  unfold Q0a.J1
  refine Q01 fun cn e6 => ?_
  have ao := (Ext.refl no bt).x_drew e6
  refine Q06 a5 ?_
  obtain ⟨bf, bh, bd, d4, h⟩ := h
  refine ⟨bf, bh, bd, (ao).cell d4 id, ?_⟩
  obtain ⟨ey, d0, h⟩ := h
  refine Q06 d0 ?_
  obtain ⟨ac, ab, h⟩ := h
  refine ⟨ac, ab, ?_⟩
  obtain ⟨ed, d2, h⟩ := h
  refine ⟨ed, (ao).cell d2 id, ?_⟩
  refine Q06 a5 ?_
  obtain ⟨b0, b9, av, df, h⟩ := h
  refine ⟨b0, b9, av, (ao).cell df id, ?_⟩
  obtain ⟨ez, c6, h⟩ := h
  refine Q06 c6 ?_
  obtain ⟨ac, ab, h⟩ := h
  refine ⟨ac, ab, ?_⟩
  obtain ⟨c9, c4, da, dl, h⟩ := h
  refine ⟨c9, c4, da, (ao).cell dl id, ?_⟩
  have h := h cn ao
  refine h.mono fun ei ea h => ?_
  obtain ⟨bn, bl, bo, he, h⟩ := h
  refine ⟨bn, bl, bo, he, ?_⟩
  obtain ⟨d1, d6, cb, cy, h⟩ := h
  refine ⟨d1, d6, cb, cy, ?_⟩
  refine h.mono fun e3 dz h => ?_
  obtain ⟨ai, ag, an, au, he, h⟩ := h
  refine ⟨ai, ag, an, au, he, ?_⟩
  refine bif_of (fun br => ?_) (fun br => ?_)
  ·have h := h.1 (bne_t br)
   exact h
  have h := h.2 (bne_f br)
  refine bif_of (fun bq => ?_) (fun bq => ?_)
  ·have h := h.1 (bne_t bq)
   exact h
  have h := h.2 (bne_f bq)
  obtain ⟨I4, cx, h0, h⟩ := h
  refine ⟨I4, cx, h0, fun ch c2 d8 cf hI => ?_⟩
  have h := h ch c2 d8 cf hI
  refine bif_of (fun bm => ?_) (fun bm => ?_)
  ·have h := h.1 (of_decide_eq_true bm)
   obtain ⟨ek, bv, h⟩ := h
   refine Q06 bv ?_
   obtain ⟨ac, ab, h⟩ := h
   refine ⟨ac, ab, ?_⟩
   obtain ⟨ci, bx, h⟩ := h
   refine ⟨ci, bx, ?_⟩
   obtain ⟨ae, af, h⟩ := h
   try rw [w64 ae af]
   obtain ⟨cz, hk, h⟩ := h
   exact ⟨cz, hk, h⟩
  have h := h.2 (Int.not_lt.1 (of_decide_eq_false bm))
  refine Q06 a5 ?_
  obtain ⟨ak, al, aq, c0, h⟩ := h
  refine ⟨ak, al, aq, c0, ?_⟩
  obtain ⟨ae, af, h⟩ := h
  try rw [w64 ae af]
  obtain ⟨ec, bs, h⟩ := h
  refine Q06 bs ?_
  obtain ⟨ac, ab, h⟩ := h
  refine ⟨ac, ab, ?_⟩
  obtain ⟨hcs, h⟩ := h
  refine ⟨hcs, Q01 fun e2 cg => ?_⟩
  replace h := Q1c h cg
  obtain ⟨ae, af, h⟩ := h
  try rw [w64 ae af]
  obtain ⟨c5, hk, h⟩ := h
  exact ⟨c5, hk, h⟩

theorem Q0a.go (r1 o2 : Option Addr) (a7 a9 a3 a4 : Int) (a2 : Option Addr) (a1 a0 : Nat) (a6 : Option Addr) (a8 a5 : Nat) {R : RW} {w : World} (h : Q0a.N r1 o2 a7 a9 a3 a4 a2 a1 a0 a6 a8 a5 R w) : Calls Try.prog 26 #[.pointer r1, .pointer o2, .agg #[.int .i64 a7, .int .i64 a9, .int .u64 a3, .int .i64 a4, .slice a2 a1 a0, .slice a6 a8 a5]] w fun e w' => ∃ v, e = .returned v ∧ R v w' := Q0a.ok r1 o2 a7 a9 a3 a4 a2 a1 a0 a6 a8 a5 (Q0a.up r1 o2 a7 a9 a3 a4 a2 a1 a0 a6 a8 a5 h)
theorem Q0a.run (r1 o2 : Option Addr) (a7 a9 a3 a4 : Int) (a2 : Option Addr) (a1 a0 : Nat) (a6 : Option Addr) (a8 a5 : Nat) {V : Value} {Q : World → Prop} {w : World} (h : Q0a.N r1 o2 a7 a9 a3 a4 a2 a1 a0 a6 a8 a5 (fun v w' => v = V ∧ Q w') w) : Calls Try.prog 26 #[.pointer r1, .pointer o2, .agg #[.int .i64 a7, .int .i64 a9, .int .u64 a3, .int .i64 a4, .slice a2 a1 a0, .slice a6 a8 a5]] w (Ret V Q) := (Q0a.go r1 o2 a7 a9 a3 a4 a2 a1 a0 a6 a8 a5 h).mono fun e w' ⟨v, he, hv, hq⟩ => ⟨by rw [he, hv], hq⟩

end Go.Proofs.Ytgeakpldocfccaa
set_option linter.unusedSectionVars false
namespace Go.Mx
open Go
section
variable {P : Program} {w w' : World} {q k : Nat} {t e : TypeId} {cs vs : List Value}
theorem Q36 : ∀ {vs cur : List Value} {j m : Nat}, (setAll cur j vs).take m = setAll (cur.take m) j vs
  | [], _, _, _ => rfl
  | v :: r, cur, j, m => by rw [setAll, setAll, Q36, List.take_set]
theorem Grows.put {w : World} {o : Own} {sz n c g j : Nat} {a : Option Addr} (h : Grows e sz w o g a n c cs) (ok : Tags w o) (hc : cs ≠ []) :
    ∃ b cur, a = some (blk b) ∧ Blk w b e cur ∧ cs.length ≤ cur.length ∧ o b = some g ∧ b < w.heap.size ∧
      ∀ w', Ext (fun x => x = b) w w' → Blk w' b e (setAll cur j vs) → Step (fun i => i = g) w o w' (grow w o) ∧ Grows e sz w' (grow w o) g a n c (setAll cs j vs) := by
  rcases h.own.2 with ⟨hv, h0⟩ | ⟨b, cap, cur, hv, hle, hgb, hnc, hcm, hcs, htk⟩
  · exact absurd (by have := h.own.1; rw [h0] at this; exact List.eq_nil_of_length_eq_zero (by omega)) hc
  cases hv
  have tg := h.tg ⟨b, 0, none⟩ rfl
  have hblk : Blk w b e cur.toList := by unfold Blk; simpa using hgb
  have hcl : cur.toList.length = c * sz := by simpa using hcs
  refine ⟨b, cur.toList, rfl, hblk, ?_, tg.1, tg.2, fun w' X hb' => ?_⟩
  · have := congrArg List.length htk
    rw [List.length_take] at this; omega
  have s : Step (fun i => i = g) w o w' (grow w o) := Step.of_ext X ok fun q hq _ => by subst hq; exact tg.1
  refine ⟨s, ⟨by rw [Q1Y]; exact h.own.1, .inr ⟨b, c, (setAll cur.toList j vs).toArray, rfl, Nat.zero_le _, hb', hnc, hcm, by simpa [Q1Y] using hcs, ?_⟩⟩, fun ad ha => ?_⟩
  · show (setAll cur.toList j vs).take (n * sz) = _
    rw [Q36, htk]
  · cases ha; exact ⟨(s.own tg.2).trans tg.1, Nat.lt_of_lt_of_le tg.2 s.size⟩
theorem Grows.ne {w : World} {o : Own} {sz n c g b : Nat} {a : Option Addr} {cs' : List Value} (h : Grows e sz w o g a n c cs) (hb : Blk w b t cs') (hte : t ≠ e) : ∀ ad, a = some ad → ad.block ≠ b := by
  intro ad ha hq
  rcases h.own.2 with ⟨hv, h0⟩ | ⟨q, cap, cur, hv, hle, hgb, _⟩
  · cases hv; cases ha
  · cases hv; cases ha
    simp only at hq
    subst hq
    unfold Blk at hb
    rw [hb] at hgb
    cases hgb
    exact hte rfl
theorem Grows.apart {w : World} {o : Own} {e2 sz sz2 n n2 c c2 g g2 : Nat} {a a2 : Option Addr} {cs2 : List Value} (h : Grows e sz w o g a n c cs) (h2 : Grows e2 sz2 w o g2 a2 n2 c2 cs2) (hte : e ≠ e2) : ∀ x y, a = some x → a2 = some y → x.block ≠ y.block := by
  intro x y hx hy hq
  rcases h2.own.2 with ⟨hv, h0⟩ | ⟨q, cap, cur, hv, hle, hgb, _⟩
  · cases hv; cases hy
  · cases hv; cases hy
    exact h.ne (b := q) (t := e2) (cs' := cur.toList) (by unfold Blk; simpa using hgb) (Ne.symm hte) x hx hq
end
end Go.Mx
set_option maxRecDepth 20000
set_option maxHeartbeats 2000000
namespace Go.Proofs.Ytgeakpldocfccaa
open Go Go.Mx Go.Proofs
open W (OwnB GivesW)
def boundE (e : Int) : List UInt8 := numL e.toNat
theorem Q4B (e : Int) : (boundE e).length ≤ 10 := numF_le _ _
section
variable {w w' w1 : World} {o o' o1 : Own} {q k p N m : Nat} {K : Nat → Prop} {b : List UInt8} {a : Option Addr} {c : Nat}
theorem Q40 {e : Int} (h0 : 0 ≤ e) (h1 : e < 9223372036854775808) (w : World) : Calls Try.prog 42 #[.int .i64 e] w (fun x w' => ∃ a' c', x = .returned (.slice a' (boundE e).length c') ∧ OwnB w.heap.size w' a' c' (boundE e) ∧ Ext no w w') := by
  refine (Q19.go _ (R := fun v w' => ∃ a' c', v = (.slice a' (boundE e).length c') ∧ OwnB w.heap.size w' a' c' (boundE e) ∧ Ext no w w') ?_).mono fun x w' ⟨v, he, a', c', hv, hw⟩ => ⟨a', c', by rw [he, hv], hw⟩
  unfold Q19.N
  have hw : IntKind.u64.wrap e = ((e.toNat : Nat) : Int) := by rw [wu64 (by omega) (by omega)]; omega
  rw [hw]
  refine (W.Num_spec (bs := []) (c := 0) (RowAt.nil w none) (by decide) (n := e.toNat) (by omega)).mono fun x w4 ⟨a', c', he, ho, hx⟩ => ⟨a', _, c', he, a', c', rfl, ho, hx⟩
theorem Q1B (h : OwnB w.heap.size w' a c b) (X : Ext no w w') : Row w' (grow w o) a (bytesV b) := Row.fresh h.row fun ad ha => (h.fr ad ha).1
theorem eightN (h t : Nat) : (List.range (t + 1)).map (byteAt h) = (List.range t).map (byteAt h) ++ [byteAt h t] := by rw [List.range_succ, List.map_append]; rfl
theorem Q5z {h : Nat} (hh : h < 18446744073709551616) (w : World) :
    Calls Try.prog 43 #[.int .u64 h] w (fun e w' => ∃ a' c', e = .returned (.slice a' (boxL h 0).length c') ∧ OwnB w.heap.size w' a' c' (boxL h 0) ∧ Ext no w w') := by
  refine (Q12.go _ (R := fun v w' => ∃ a' c', v = .slice a' (boxL h 0).length c' ∧ OwnB w.heap.size w' a' c' (boxL h 0) ∧ Ext no w w') ?_).mono fun e w' ⟨v, he, a', c', hv, hw⟩ => ⟨a', c', by rw [he, hv], hw⟩
  unfold Q12.N
  refine ⟨fun m vs w1 => ∃ (t : Nat) (a : Option Addr) (c : Nat), vs = [.slice a ((List.range t).map (byteAt h)).length c, .int .i64 t] ∧ m + t = 8 ∧ OwnB w.heap.size w1 a c ((List.range t).map (byteAt h)) ∧ Ext no w w1, 8, ⟨0, none, 0, rfl, rfl, OwnB.nil _ _, Ext.refl _ _⟩, ?_⟩
  rintro m w1 ba bn bc i ⟨t, a, c, hi, hq, hO, X1⟩
  simp only [List.cons.injEq, Value.int.injEq, Value.slice.injEq, true_and, and_true] at hi
  obtain ⟨⟨rfl, rfl, rfl⟩, rfl⟩ := hi
  refine ⟨fun ht => ?_, fun ht => ?_⟩
  · have ht : t < 8 := by omega
    refine ⟨by omega, by omega, by omega, by omega, by omega, fun w9 q10 X9 hb hq10 hq10' => ?_⟩
    have hb' : Blk w9 q10 5 (bytesV [byteAt h t]) := by
      have e : IntKind.u8.wrap (Int.fdiv (h : Int) (2 ^ (min (Int.toNat ((56 : Int) - ((8 : Int) * (t : Int)))) (IntKind.bits .u64)))) = ((byteAt h t).toNat : Int) := by
        have e1 : min (Int.toNat ((56 : Int) - ((8 : Int) * (t : Int)))) (IntKind.bits .u64) = 56 - 8 * t := by
          have : IntKind.bits .u64 = 64 := rfl
          omega
        rw [e1, Q1z, Int.fdiv_eq_ediv_of_nonneg _ (Int.pow_nonneg (by decide)), IntKind.wrap_u8]
        rw [show ((2 : Int) ^ (56 - 8 * t)) = ((2 ^ (56 - 8 * t) : Nat) : Int) by rw [Int.natCast_pow]; rfl]
        rfl
      rw [e] at hb
      exact hb
    have l1 := X1.size
    have hO9 : OwnB w.heap.size w9 (some (blk q10)) 1 [byteAt h t] := ⟨Q1r hb' rfl (by show (1 : Nat) ≤ maxLen; unfold maxLen; decide), fun ad ha => by cases ha; exact ⟨by show _ ≤ q10; omega, hq10'⟩⟩
    obtain ⟨a', c', w12, hr, hO', hx⟩ := (hO.no X9).append (t := 25) (ty := 25) Try.underlying25 (Nat.le_trans l1 X9.size) (xc := 1) (xs := [byteAt h t]) hO9.row (by rw [List.length_map, List.length_range]; show t + 1 ≤ _; omega)
    rw [← eightN] at hr hO'
    exact ⟨a', _, c', w12, hr, by omega, by omega, m - 1, by omega, t + 1, a', c', rfl, by omega, hO', (X1.trans X9).then hx fun b hb => .inr hb⟩
  · obtain rfl : t = 8 := by omega
    have e : (List.range 8).map (byteAt h) = boxL h 0 := rfl
    rw [e] at hO ⊢
    exact ⟨ba, bc, rfl, hO, X1⟩
end
structure Rng where
  who : Int
  secret : Int
  keys : List Int
  olds : List (List UInt8)
def Rng.V (R : Rng) (k : Nat) (ka : Option Addr) (kc : Nat) (oa : Option Addr) (oc : Nat) : List Value := [.pointer (some (blk k)), .int .i64 R.who, .int .u64 R.secret, .slice ka R.keys.length kc, .slice oa R.olds.length oc]
abbrev KRw (w : World) (o : Own) (g : Nat) (a : Option Addr) (c : Nat) (l : List Int) : Prop := Grows 36 1 w o g a l.length c (l.map u64V)
abbrev ORw (w : World) (o : Own) (g : Nat) (a : Option Addr) (c : Nat) (l : List BS) : Prop := Grows 25 1 w o g a l.length c (l.map BS.v)
def BSk (w : World) (o : Own) (x : BS) : Prop := Row w o x.a (bytesV x.bs) ∧ x.bs.length ≤ x.c
theorem BSk.step {K : Nat → Prop} {w w' : World} {o o' : Own} {x : BS} (h : BSk w o x) (s : Step K w o w' o') : BSk w' o' x := ⟨h.1.step s, h.2⟩

theorem inf25 : (Try.prog.info? 25).map (fun i => (i.zero, i.size, i.bytes)) = some (some (.slice none 0 0), 1, 24) := by kernel_rfl
structure EG (w : World) (o : Own) (q k : Nat) (R : Rng) : Prop where
  mem : ∃ ka kc oa oc, ∃ ol : List BS, Blk w q 108 (R.V k ka kc oa oc) ∧ KRw w o q ka kc R.keys ∧ ORw w o q oa oc ol ∧ ol.map BS.bs = R.olds ∧ ∀ x ∈ ol, BSk w o x
  tg : o q = some q
section
variable {w w' w1 : World} {o o' o1 : Own} {q k p N m : Nat} {K : Nat → Prop} {R : Rng} {b : List UInt8} {a : Option Addr} {c : Nat}
theorem EG.lt (h : EG w o q k R) : q < w.heap.size := by
  obtain ⟨ka, kc, oa, oc, ol, hb, _⟩ := h.mem
  exact hb.lt
theorem EG.step (h : EG w o q k R) (s : Step K w o w' o') (hk : ¬ K q) : EG w' o' q k R := by
  obtain ⟨⟨ka, kc, oa, oc, ol, hb, hk1, ho, hm, hx⟩, tg⟩ := h
  exact ⟨⟨ka, kc, oa, oc, ol, s.blk hb tg hk, hk1.step s hk, ho.step s hk, hm, fun x h => (hx x h).step s⟩, by rw [s.own hb.lt]; exact tg⟩
theorem Q5a {l : List Int} : ∀ u ∈ l.map u64V, u.oneCell' = true := fun u hu => by
  obtain ⟨x, _, rfl⟩ := List.mem_map.1 hu
  rfl
theorem Q5k {l : List BS} : ∀ u ∈ l.map BS.v, u.oneCell' = true := fun u hu => by
  obtain ⟨x, _, rfl⟩ := List.mem_map.1 hu
  rfl
theorem EG.pushKey (h : EG w o q k R) (ok : Tags w o) (hl : R.keys.length < 1000000) (x : Int) {qb : Nat} (hb : Blk w qb 36 [.int .u64 x]) {ka : Option Addr} {n kc : Nat} (hc : w.cell? ((blk q).add 3) = some (.slice ka n kc)) :
    ∃ a' n' c' w' o', (Builtin.append_ #[22, 22] 22 #[.slice ka n kc, .slice (some (blk qb)) 1 1]).run Try.prog w = .ok (.slice a' n' c') w' ∧ Step (fun j => j = q) w o w' o' ∧
      Q0d w' ((blk q).add 3) ∧ ∀ w2, w2 = w'.setCell ((blk q).add 3) (.slice a' n' c') → Step (fun j => j = q) w o w2 (grow w' o') ∧ EG w2 (grow w' o') q k { R with keys := R.keys ++ [x] } := by
  obtain ⟨⟨ka', kc', oa, oc, ol, hbk, hk1, ho, hm, hx⟩, tg⟩ := h
  have hc2 := hbk.cella (i := 3) (v := .slice ka' R.keys.length kc') rfl
  rw [hc] at hc2
  cases hc2
  obtain ⟨i, hi, hz, hsz, hby⟩ := info_of inf36
  obtain ⟨a', c', w', o', hrun, s2, hk2, hk, _⟩ := Grows.push (ty := 22) Try.underlying22 hi hz hsz hby rfl (by decide) hk1 ok hbk.lt (xa := some (blk qb)) (m := 1) (xc := 1) (news := [x].map u64V) rfl (RowAt.of_blk hb) Q5a (by omega) (by omega)
  have X2 : Ext (fun b => ∃ ad, ka = some ad ∧ b = ad.block) w w' := ⟨s2.ext.os, s2.ext.tape, s2.ext.output, s2.ext.size, fun b hb hn => hk b hb fun ad ha hb' => hn ⟨ad, ha, hb'⟩⟩
  have hb2 : Blk w' q 108 _ := hbk.ext X2 fun ⟨ad, h1, h2⟩ => hk1.ne hbk (by decide) ad h1 h2.symm
  have ho2 : ORw w' o' q oa oc ol := ho.keep X2 (fun ad ha ⟨ad', h1, h2⟩ => ho.apart hk1 (by decide) ad ad' ha h1 h2) fun b hb => s2.own hb
  have tg2 : o' q = some q := by rw [s2.own hbk.lt]; exact tg
  refine ⟨a', _, c', w', o', hrun, s2, hb2.cana (i := 3) rfl, fun w3 e3 => ?_⟩
  have X3 : Ext (fun b => b = q) w' w3 := (Ext.refl (fun b => b = q) w').x_set (q := q) (i := 3) rfl (.inl rfl) e3
  have b3 := hb2.seti 3 rfl e3
  have hk2' : KRw w' o' q a' c' (R.keys ++ [x]) := by
    unfold KRw
    rw [List.length_append, List.map_append]; exact hk2
  have s3 : Step (fun j => j = q) w' o' w3 (grow w' o') := Step.of_ext X3 s2.ok fun b hb _ => by subst hb; exact tg2
  refine ⟨s2.trans s3, ⟨⟨a', c', oa, oc, ol, ?_, ?_, ?_, hm, fun y hy => ((hx y hy).step s2).step s3⟩, by rw [s3.own hb2.lt]; exact tg2⟩⟩
  · have e : Rng.V { R with keys := R.keys ++ [x] } k a' c' oa oc = [.pointer (some (blk k)), .int .i64 R.who, .int .u64 R.secret, .slice a' (R.keys.length + 1) c', .slice oa R.olds.length oc] := by unfold Rng.V; rw [List.length_append]; rfl
    rw [e]; exact b3
  · exact hk2'.keep X3 (hk2'.ne hb2 (by decide)) fun b hb => s3.own hb
  · exact ho2.keep X3 (ho2.ne hb2 (by decide)) fun b hb => s3.own hb
theorem EG.pushOld (h : EG w o q k R) (ok : Tags w o) (hl : R.olds.length < 1000000) {x : BS} (hxk : BSk w o x) {qb : Nat} (hb : Blk w qb 25 [x.v]) {ka : Option Addr} {n kc : Nat} (hc : w.cell? ((blk q).add 4) = some (.slice ka n kc)) :
    ∃ a' n' c' w' o', (Builtin.append_ #[59, 59] 59 #[.slice ka n kc, .slice (some (blk qb)) 1 1]).run Try.prog w = .ok (.slice a' n' c') w' ∧ Step (fun j => j = q) w o w' o' ∧
      Q0d w' ((blk q).add 4) ∧ ∀ w2, w2 = w'.setCell ((blk q).add 4) (.slice a' n' c') → Step (fun j => j = q) w o w2 (grow w' o') ∧ EG w2 (grow w' o') q k { R with olds := R.olds ++ [x.bs] } := by
  obtain ⟨⟨ka', kc', oa, oc, ol, hbk, hk1, ho, hm, hx⟩, tg⟩ := h
  have hol : ol.length = R.olds.length := by rw [← hm, List.length_map]
  have hc2 := hbk.cella (i := 4) (v := .slice oa R.olds.length oc) rfl
  rw [hc] at hc2
  cases hc2
  obtain ⟨i, hi, hz, hsz, hby⟩ := info_of inf25
  obtain ⟨a', c', w', o', hrun, s2, hk2, hk, _⟩ := Grows.push (ty := 59) Try.underlying59 hi hz hsz hby rfl (by decide) ho ok hbk.lt (xa := some (blk qb)) (m := 1) (xc := 1) (news := [x].map BS.v) rfl (RowAt.of_blk hb) Q5k (by omega) (by omega)
  rw [hol] at hrun
  have X2 : Ext (fun b => ∃ ad, ka = some ad ∧ b = ad.block) w w' := ⟨s2.ext.os, s2.ext.tape, s2.ext.output, s2.ext.size, fun b hb hn => hk b hb fun ad ha hb' => hn ⟨ad, ha, hb'⟩⟩
  have hb2 : Blk w' q 108 _ := hbk.ext X2 fun ⟨ad, h1, h2⟩ => ho.ne hbk (by decide) ad h1 h2.symm
  have hk1' : KRw w' o' q ka' kc' R.keys := hk1.keep X2 (fun ad ha ⟨ad', h1, h2⟩ => hk1.apart ho (by decide) ad ad' ha h1 h2) fun b hb => s2.own hb
  have tg2 : o' q = some q := by rw [s2.own hbk.lt]; exact tg
  refine ⟨a', _, c', w', o', hrun, s2, hb2.cana (i := 4) rfl, fun w3 e3 => ?_⟩
  have X3 : Ext (fun b => b = q) w' w3 := (Ext.refl (fun b => b = q) w').x_set (q := q) (i := 4) rfl (.inl rfl) e3
  have b3 := hb2.seti 4 rfl e3
  have hk2' : ORw w' o' q a' c' (ol ++ [x]) := by
    unfold ORw
    rw [List.length_append, List.map_append]; exact hk2
  have s3 : Step (fun j => j = q) w' o' w3 (grow w' o') := Step.of_ext X3 s2.ok fun b hb _ => by subst hb; exact tg2
  refine ⟨s2.trans s3, ⟨⟨ka', kc', a', c', ol ++ [x], ?_, ?_, ?_, by rw [List.map_append, hm]; rfl, fun y hy => ?_⟩, by rw [s3.own hb2.lt]; exact tg2⟩⟩
  · have e : Rng.V { R with olds := R.olds ++ [x.bs] } k ka' kc' a' c' = [.pointer (some (blk k)), .int .i64 R.who, .int .u64 R.secret, .slice ka' R.keys.length kc', .slice a' (R.olds.length + 1) c'] := by unfold Rng.V; rw [List.length_append]; rfl
    rw [e]; exact b3
  · exact hk1'.keep X3 (hk1'.ne hb2 (by decide)) fun b hb => s3.own hb
  · exact hk2'.keep X3 (hk2'.ne hb2 (by decide)) fun b hb => s3.own hb
  · rcases List.mem_append.1 hy with hy | hy
    · exact ((hx y hy).step s2).step s3
    · rw [List.mem_singleton.1 hy]; exact (hxk.step s2).step s3
theorem EG.key (h : EG w o q k R) {i : Nat} (hi : i < R.keys.length) : ∃ ka kc ad, w.cell? ((blk q).add 3) = some (.slice ka R.keys.length kc) ∧ ka = some ad ∧ w.cell? (ad.add (i * 1)) = some (.int .u64 (R.keys[i]?.getD 0)) := by
  obtain ⟨⟨ka, kc, oa, oc, ol, hbk, hk1, ho, hm, hx⟩, tg⟩ := h
  have hr := hk1.row
  have hg : (R.keys.map u64V)[i]? = some (u64V (R.keys[i]?.getD 0)) := by rw [List.getElem?_map, List.getElem?_eq_getElem hi]; rfl
  obtain ⟨ad, ha, hc⟩ := hr i _ hg
  exact ⟨ka, kc, ad, hbk.cella (i := 3) rfl, ha, by rw [Nat.mul_one]; exact hc⟩
theorem EG.old (h : EG w o q k R) {i : Nat} (hi : i < R.olds.length) : ∃ oa oc ad, ∃ x : BS, w.cell? ((blk q).add 4) = some (.slice oa R.olds.length oc) ∧ oa = some ad ∧ w.cell? (ad.add (i * 1)) = some (.slice x.a x.bs.length x.c) ∧ x.bs = R.olds[i]?.getD [] ∧ BSk w o x := by
  obtain ⟨⟨ka, kc, oa, oc, ol, hbk, hk1, ho, hm, hx⟩, tg⟩ := h
  have hol : ol.length = R.olds.length := by rw [← hm, List.length_map]
  have hr := ho.row
  have hil : i < ol.length := by omega
  have hg : (ol.map BS.v)[i]? = some (ol[i]).v := by rw [List.getElem?_map, List.getElem?_eq_getElem hil]; rfl
  obtain ⟨ad, ha, hc⟩ := hr i _ hg
  refine ⟨oa, oc, ad, ol[i], hbk.cella (i := 4) rfl, ha, by rw [Nat.mul_one]; exact hc, ?_, hx _ (List.getElem_mem hil)⟩
  rw [← hm, List.getElem?_map, List.getElem?_eq_getElem hil]; rfl
theorem EG.setKey (h : EG w o q k R) (ok : Tags w o) {i : Nat} (hi : i < R.keys.length) {ka : Option Addr} {n kc : Nat} (hc : w.cell? ((blk q).add 3) = some (.slice ka n kc)) {ad : Addr} (ha : ka = some ad) (v : Int) :
    Q0d w (ad.add (i * 1)) ∧ ∀ w2, w2 = w.setCell (ad.add (i * 1)) (.int .u64 v) → ∃ o2, Step (fun j => j = q) w o w2 o2 ∧ EG w2 o2 q k { R with keys := R.keys.set i v } := by
  obtain ⟨⟨ka', kc', oa, oc, ol, hbk, hk1, ho, hm, hx⟩, tg⟩ := h
  have hc2 := hbk.cella (i := 3) (v := .slice ka' R.keys.length kc') rfl
  rw [hc] at hc2
  cases hc2
  have hne : R.keys.map u64V ≠ [] := fun e => by
    have := congrArg List.length e
    rw [List.length_map] at this
    simp at this; rw [this] at hi; simp at hi
  obtain ⟨b, cur, ha2, hb, hle, hob, hbl, hput⟩ := Grows.put (j := i) (vs := [.int .u64 v]) hk1 ok hne
  rw [ha] at ha2
  cases ha2
  rw [List.length_map] at hle
  rw [Nat.mul_one]
  refine ⟨hb.cana (List.getElem?_eq_getElem (by omega)), fun w3 e3 => ?_⟩
  rw [add_blk] at e3
  have X3 : Ext (fun q => q = b) w w3 := (Ext.refl (fun q => q = b) w).x_set (q := b) (i := i) rfl (.inl rfl) e3
  have b3 := hb.seti i (v := .int .u64 v) rfl e3
  obtain ⟨s3, h3⟩ := hput w3 X3 b3
  have hset : setAll (R.keys.map u64V) i [.int .u64 v] = (R.keys.set i v).map u64V := by
    show (R.keys.map u64V).set i _ = _
    rw [List.map_set]; rfl
  refine ⟨_, s3, ⟨⟨some (blk b), kc, oa, oc, ol, ?_, ?_, ?_, hm, fun y hy => (hx y hy).step s3⟩, by rw [s3.own hbk.lt]; exact tg⟩⟩
  · have hgb : q ≠ b := fun e => hk1.ne hbk (by decide) _ ha (by rw [e])
    have e : Rng.V { R with keys := R.keys.set i v } k (some (blk b)) kc oa oc = Rng.V R k (some (blk b)) kc oa oc := by unfold Rng.V; rw [List.length_set]
    rw [e, ← ha]; exact hbk.ext X3 hgb
  · unfold KRw
    rw [← hset, List.length_set, ← ha]
    exact h3
  · exact ho.keep X3 (fun ad' ha' h2 => ho.apart hk1 (by decide) ad' (blk b) ha' ha h2) fun b hb => s3.own hb
theorem EG.who (h : EG w o q k R) : w.cell? ((blk q).add 1) = some (.int .i64 R.who) := by
  obtain ⟨⟨ka, kc, oa, oc, ol, hbk, _⟩, tg⟩ := h
  exact hbk.cella (i := 1) rfl
theorem EG.secret (h : EG w o q k R) : w.cell? ((blk q).add 2) = some (.int .u64 R.secret) := by
  obtain ⟨⟨ka, kc, oa, oc, ol, hbk, _⟩, tg⟩ := h
  exact hbk.cella (i := 2) rfl
theorem EG.orc (h : EG w o q k R) : w.cell? ((blk q).add 0) = some (.pointer (some (blk k))) := by
  obtain ⟨⟨ka, kc, oa, oc, ol, hbk, _⟩, tg⟩ := h
  exact hbk.cella (i := 0) rfl
theorem EG.keysC (h : EG w o q k R) : ∃ ka kc, w.cell? ((blk q).add 3) = some (.slice ka R.keys.length kc) := by
  obtain ⟨⟨ka, kc, oa, oc, ol, hbk, _⟩, tg⟩ := h
  exact ⟨ka, kc, hbk.cella (i := 3) rfl⟩
theorem EG.oldsC (h : EG w o q k R) : ∃ ka kc, w.cell? ((blk q).add 4) = some (.slice ka R.olds.length kc) := by
  obtain ⟨⟨ka, kc, oa, oc, ol, hbk, _⟩, tg⟩ := h
  exact ⟨oa, oc, hbk.cella (i := 4) rfl⟩
def keyK (R : Rng) (e : Int) : Int × Int := if e < 0 ∨ (R.keys.length : Int) ≤ e then (0, 2) else if R.keys[e.toNat]?.getD 0 = 0 then (0, 11) else (R.keys[e.toNat]?.getD 0, 0)
theorem Q4H (h : EG w o q k R) (e : Int) : Calls Try.prog 64 #[.pointer (some (blk q)), .int .i64 e] w (Ret (.tuple #[.int .u64 (keyK R e).1, .int .i64 (keyK R e).2]) fun w' => w' = w) := by
  refine Q0X.run _ _ ?_
  unfold Q0X.N
  refine ⟨fun h => (by cases h), fun _ => ⟨fun h0 => ?_, fun h0 => ?_⟩⟩
  · unfold keyK; rw [if_pos (.inl h0)]; exact ⟨rfl, rfl⟩
  obtain ⟨ka, kc, hc⟩ := h.keysC
  refine ⟨_, rfl, _, _, _, hc, fun h1 => ?_, fun h1 => ?_⟩
  · unfold keyK; rw [if_pos (.inr h1)]; exact ⟨rfl, rfl⟩
  obtain ⟨i, rfl⟩ := Int.eq_ofNat_of_zero_le h0
  obtain ⟨ka2, kc2, ad, hc2, ha, hv⟩ := h.key (i := i) (by omega)
  have hk : keyK R (i : Int) = if R.keys[i]?.getD 0 = 0 then (0, 11) else (R.keys[i]?.getD 0, 0) := by unfold keyK; rw [if_neg (by omega)]; rfl
  refine ⟨_, _, _, hc2, ad, ha, by omega, by omega, _, by rw [Int.toNat_natCast]; exact hv, fun hz => ?_, fun hz => ?_⟩
  · rw [hk, if_pos hz]; exact ⟨rfl, rfl⟩
  · rw [hk, if_neg hz]
    exact ⟨_, _, _, hc2, ad, ha, by omega, by omega, _, by rw [Int.toNat_natCast]; exact hv, rfl, rfl⟩
theorem Q2Z (ok : Tags w o) {who secret : Int} (h0 : 0 ≤ who) (h1 : who < 8) (k : Nat) : Calls Try.prog 18 #[.pointer (some (blk k)), .int .i64 who, .int .u64 secret] w (fun x w' => ∃ q o', x = .returned (.tuple #[.pointer (some (blk q)), .int .i64 0]) ∧ w.heap.size ≤ q ∧ Step no w o w' o' ∧ EG w' o' q k ⟨who, secret, [], []⟩) := by
  refine (Q1h.go _ _ _ (R := fun v w' => ∃ q o', v = (.tuple #[.pointer (some (blk q)), .int .i64 0]) ∧ w.heap.size ≤ q ∧ Step no w o w' o' ∧ EG w' o' q k ⟨who, secret, [], []⟩) ?_).mono fun x w' ⟨v, he, q, o', hv, hw⟩ => ⟨q, o', by rw [he, hv], hw⟩
  unfold Q1h.N
  refine ⟨fun h => absurd h (by omega), fun _ => ⟨fun h => absurd h (by omega), fun _ => ⟨fun h => (by cases h), fun _ w7 q8 X7 hb hq hq' => ?_⟩⟩⟩
  have s := (Step.of_no X7 ok).tag hq hq'
  exact ⟨q8, _, rfl, hq, s, ⟨none, 0, none, 0, [], hb, Grows.nil _ _ _ _ _, Grows.nil _ _ _ _ _, rfl, fun x h => (by cases h)⟩, Q1t⟩
end
set_option maxHeartbeats 4000000
open W (OwnB GivesW)
def tells (S : OS) (olds : List (List UInt8)) (e : Nat) (ks : List Int) : Prop :=
  (ks[e + 1]?.getD 0 ≠ 0 ∧ ks[e]?.getD 0 = 0) ∧ (openOf S (ks[e + 1]?.getD 0) (boundE ((e + 1 : Nat) : Int)) (olds[e + 1]?.getD [])).2 = 0 ∧ (openOf S (ks[e + 1]?.getD 0) (boundE ((e + 1 : Nat) : Int)) (olds[e + 1]?.getD [])).1.length = 8
instance (S : OS) (olds : List (List UInt8)) (e : Nat) (ks : List Int) : Decidable (tells S olds e ks) := by unfold tells; infer_instance
def backK (S : OS) (olds : List (List UInt8)) : Nat → List Int → List Int
  | 0, ks => ks
  | e + 1, ks => if tells S olds e ks then backK S olds e (ks.set e (valOf (openOf S (ks[e + 1]?.getD 0) (boundE ((e + 1 : Nat) : Int)) (olds[e + 1]?.getD [])).1)) else ks
def Short (S : OS) : Prop := ∀ x s, alook S.sealed x = some s → s.plain.length ≤ 1000000
section
variable {w w' w1 : World} {o o' o1 : Own} {q k p N m : Nat} {K : Nat → Prop} {R : Rng} {S : OS} {b : List UInt8} {a : Option Addr} {c : Nat}
theorem Q5P (h : EG w o q k R) (hP : POrc w o k S) (ok : Tags w o) (hqk : q ≠ k) (hS : Short S) (hl : R.keys.length = R.olds.length) (h0 : 0 < R.keys.length) (h1 : R.keys.length < 1000000) (hol : ∀ b ∈ R.olds, b.length < 1000000) :
    Calls Try.prog 61 #[.pointer (some (blk q))] w (fun x w' => x = .returned (.tuple #[]) ∧ ∃ o', Step (fun j => j = q) w o w' o' ∧ EG w' o' q k { R with keys := backK S R.olds (R.keys.length - 1) R.keys }) := by
  refine (Q0W.go _ (R := fun v w' => v = .tuple #[] ∧ ∃ o', Step (fun j => j = q) w o w' o' ∧ EG w' o' q k { R with keys := backK S R.olds (R.keys.length - 1) R.keys }) ?_).mono fun x w' ⟨v, he, hv, hw⟩ => ⟨by rw [he, hv], hw⟩
  unfold Q0W.N
  obtain ⟨ka0, kc0, hc0⟩ := h.keysC
  have hkq : ¬ k = q := fun e => hqk e.symm
  refine ⟨_, rfl, _, _, _, hc0, by omega, by omega, ?_⟩
  refine ⟨fun m vs w1 => ∃ (e : Nat) (o1 : Own) (ks : List Int), vs = [.int .i64 e] ∧ m = e ∧ e < R.keys.length ∧ ks.length = R.keys.length ∧ Step (fun j => j = q) w o w1 o1 ∧ EG w1 o1 q k { R with keys := ks } ∧ backK S R.olds e ks = backK S R.olds (R.keys.length - 1) R.keys,
    R.keys.length - 1, ⟨R.keys.length - 1, o, R.keys, by congr 2; omega, rfl, by omega, rfl, Step.refl _ ok, h, rfl⟩, ?_⟩
  rintro m w8 i ⟨e, o8, ks, hi, hm, hel, hks, s8, E8, hB⟩
  simp only [List.cons.injEq, Value.int.injEq, true_and, and_true] at hi
  subst hi
  subst hm
  have fin : ∀ (w9 : World) (o9 : Own), backK S R.olds m ks = ks → Step (fun j => j = q) w8 o8 w9 o9 → EG w9 o9 q k { R with keys := ks } → Value.tuple #[] = .tuple #[] ∧ ∃ o', Step (fun j => j = q) w o w9 o' ∧ EG w9 o' q k { R with keys := backK S R.olds (R.keys.length - 1) R.keys } := fun w9 o9 hz s9 E9 => ⟨rfl, o9, s8.trans s9, by rw [← hB, hz]; exact E9⟩
  refine ⟨fun hgt => ?_, fun hle => ?_⟩
  rotate_left
  · have : m = 0 := by omega
    subst this
    exact fin w8 o8 rfl (Step.refl _ s8.ok) E8
  obtain ⟨e, rfl⟩ : ∃ e, m = e + 1 := ⟨m - 1, by omega⟩
  obtain ⟨ka1, kc1, ad1, c1, ha1, v1⟩ := E8.key (i := e + 1) (by show e + 1 < ks.length; omega)
  obtain ⟨ka2, kc2, ad2, c2, ha2, v2⟩ := E8.key (i := e) (by show e < ks.length; omega)
  have hr : c1 = c1 := rfl
  have v1 : w8.cell? (ad1.add ((e + 1) * 1)) = some (.int .u64 (ks[e + 1]?.getD 0)) := v1
  have v2 : w8.cell? (ad2.add (e * 1)) = some (.int .u64 (ks[e]?.getD 0)) := v2
  have ti : ∀ n : Nat, Int.toNat (n : Int) = n := Int.toNat_natCast
  have tj : Int.toNat (((e + 1 : Nat) : Int) - 1) = e := by omega
  refine ⟨_, _, _, c1, ad1, ha1, by omega, by show ((e + 1 : Nat) : Int) < (ks.length : Int); omega, _, by rw [ti]; exact v1, fun hn1 => ?_, fun hz1 => ?_⟩
  rotate_left
  · exact fin w8 o8 (by unfold backK; rw [if_neg (fun h => h.1.1 hz1)]) (Step.refl _ s8.ok) E8
  refine ⟨_, _, _, c2, by omega, by omega, ad2, ha2, by omega, by show ((e + 1 : Nat) : Int) - 1 < (ks.length : Int); omega, _, by rw [tj]; exact v2, fun hz2 => ?_, fun hn2 => ?_⟩
  rotate_left
  · exact fin w8 o8 (by unfold backK; rw [if_neg (fun h => hn2 h.1.2)]) (Step.refl _ s8.ok) E8
  obtain ⟨oa, oc, ad3, x, c3, ha3, v3, hx, hxk⟩ := E8.old (i := e + 1) (by show e + 1 < R.olds.length; omega)
  have hx : x.bs = R.olds[e + 1]?.getD [] := hx
  refine ⟨_, E8.orc, _, _, _, c1, ad1, ha1, by omega, by show ((e + 1 : Nat) : Int) < (ks.length : Int); omega, _, by rw [ti]; exact v1, _, _, _, c3, ad3, ha3, by omega, by show ((e + 1 : Nat) : Int) < (R.olds.length : Int); omega, _, _, _, by rw [ti]; exact v3, fun w22 X22 => ?_⟩
  refine (Q40 (e := ((e + 1 : Nat) : Int)) (by omega) (by omega) w22).mono fun u w37 ⟨ba, bc, he, hO, X37⟩ => ⟨_, _, _, he, ?_⟩
  have X := X22.trans X37
  have s37 := Step.of_no X s8.ok
  have hP37 := (hP.step s8 hkq).step s37 id
  refine ⟨by rw [ti]; exact X.cell v3 id, X.cell c3 id, by rw [ti]; exact X.cell v1 id, X.cell c1 id, X.cell E8.orc id, ?_⟩
  have hxk37 := hxk.step s37
  have hxl : x.bs.length < 1000000 := by
    rw [hx, List.getElem?_eq_getElem (by omega)]
    exact hol _ (List.getElem_mem _)
  have op := OpenO hP37 s37.ok (ks[e + 1]?.getD 0) (ba := ba) (bc := bc) (b := boundE ((e + 1 : Nat) : Int)) hO.row hxk37.1.1 hxl hxk37.2 (fun s hs => hS _ s hs)
  obtain ⟨r, hr⟩ : ∃ r, openOf S (ks[e + 1]?.getD 0) (boundE ((e + 1 : Nat) : Int)) x.bs = r := ⟨_, rfl⟩
  rw [hr] at op
  rw [hx] at hr
  have E37 := E8.step s37 id
  refine Calls.mono op fun u w46 ⟨o46, pa, pc, he, s46, pr, hpc, _⟩ => ⟨_, _, _, _, he, fun hne => ?_, fun hz => ⟨fun hn8 => ?_, fun h8 => ?_⟩⟩
  · exact fin w46 o46 (by unfold backK; rw [if_neg (fun h => hne (by have := h.2.1; rw [hr] at this; exact this))]) (s37.none.trans s46.none) (E37.step s46 id)
  · exact fin w46 o46 (by unfold backK; rw [if_neg (fun h => hn8 (by have := h.2.2; rw [hr] at this; omega))]) (s37.none.trans s46.none) (E37.step s46 id)
  have ht : tells S R.olds e ks := ⟨⟨hn1, hz2⟩, by rw [hr]; exact hz, by rw [hr]; omega⟩
  have hlen : r.1.length = 8 := by omega
  have E46 := E37.step s46 id
  have s46' : Step (fun j => j = q) w8 o8 w46 o46 := s37.none.trans s46.none
  refine ⟨fun m2 vs w1 => ∃ (t : Nat) (o1 : Own), vs = [.int .i64 t] ∧ m2 + t = 8 ∧ Step (fun j => j = q) w46 o46 w1 o1 ∧ EG w1 o1 q k { R with keys := ks.set e (valOf (r.1.take t)) }, 8, ⟨0, o46, rfl, rfl, Step.refl _ s46.ok, ?_⟩, ?_⟩
  · have : ks.set e (valOf (r.1.take 0)) = ks := by
      have hz : (valOf (r.1.take 0) : Int) = ks[e]?.getD 0 := by rw [hz2]; rfl
      rw [hz, List.getElem?_eq_getElem (by omega)]
      exact List.set_getElem_self (by omega)
    rw [this]; exact E46
  rintro m2 w52 i2 ⟨t, o52, hi2, hm2, s52, E52⟩
  simp only [List.cons.injEq, Value.int.injEq, true_and, and_true] at hi2
  subst hi2
  refine ⟨fun htl => ?_, fun htl => ?_⟩
  · have ht8 : t < 8 := by omega
    have pr52 := (pr.step s52).1
    have hg : (bytesV r.1)[t]? = some (.int .u8 ((r.1[t]'(by omega)).toNat : Int)) := Q1v (by omega)
    obtain ⟨pad, hpad, hpc2⟩ := pr52 t _ hg
    obtain ⟨ka4, kc4, ad4, c4, ha4, v4⟩ := E52.key (i := e) (by show e < (ks.set e _).length; rw [List.length_set]; omega)
    have hk4 : (ks.set e ((valOf (r.1.take t) : Nat) : Int))[e]?.getD 0 = ((valOf (r.1.take t) : Nat) : Int) := by rw [List.getElem?_set_self (by omega)]; rfl
    have v4 : w52.cell? (ad4.add (e * 1)) = some (.int .u64 ((ks.set e ((valOf (r.1.take t) : Nat) : Int))[e]?.getD 0)) := v4
    rw [hk4] at v4
    have hll : ((ks.set e ((valOf (r.1.take t) : Nat) : Int)).length : Int) = ks.length := by rw [List.length_set]
    refine ⟨pad, hpad, by omega, by omega, _, by rw [ti, Nat.mul_one]; exact hpc2, _, _, _, c4, by omega, by omega, _, _, _, c4, by omega, by omega, ad4, ha4, by omega, by show ((e + 1 : Nat) : Int) - 1 < _; rw [hll]; omega, _, by rw [tj]; exact v4, ad4, ha4, by omega, by show ((e + 1 : Nat) : Int) - 1 < _; rw [hll]; omega, fun w57 X57 => ?_⟩
    have s57 := Step.of_no X57 s52.ok
    have E57 := E52.step s57 id
    have hlt := Q2W t (r.1.take t) (by simp; omega)
    have hlt2 : valOf (r.1.take t) < 2 ^ 56 := by
      refine Nat.lt_of_lt_of_le hlt ?_
      exact Nat.le_trans (Nat.pow_le_pow_right (by decide) (by omega : t ≤ 7)) (by decide)
    have hxx := u8_lt (r.1[t]'(by omega))
    have hval : IntKind.u64.wrap ((BitVec.ofInt (IntKind.bits .u64) (IntKind.u64.wrap (((valOf (r.1.take t) : Nat) : Int) * 256)) ||| BitVec.ofInt (IntKind.bits .u64) (IntKind.u64.wrap ((r.1[t]'(by omega)).toNat : Int))).toNat) = ((valOf (r.1.take (t + 1)) : Nat) : Int) := by
      rw [show (256 : Int) = 2 ^ min (Int.toNat 8) (IntKind.bits .u64) from rfl, or_byte hlt2 hxx, wu64 (by omega) (by omega), List.take_add_one, show r.1[t]?.toList = [r.1[t]'(by omega)] by simp [show t < r.1.length by omega], Q2c]
    rw [add_add, Nat.add_zero, tj, hval]
    obtain ⟨hcan, hset⟩ := E57.setKey s57.ok (i := e) (by show e < (ks.set e _).length; rw [List.length_set]; omega) (X57.cell c4 id) ha4 ((valOf (r.1.take (t + 1)) : Nat) : Int)
    refine ⟨hcan, Q01 fun w66 e66 => ?_⟩
    obtain ⟨o66, s66, E66⟩ := hset w66 e66
    refine ⟨by omega, by omega, m2 - 1, by omega, t + 1, o66, rfl, by omega, (s52.trans s57.none).trans s66, ?_⟩
    have hss : (ks.set e ((valOf (r.1.take t) : Nat) : Int)).set e ((valOf (r.1.take (t + 1)) : Nat) : Int) = ks.set e ((valOf (r.1.take (t + 1)) : Nat) : Int) := by rw [List.set_set]
    have E66 : EG w66 o66 q k { R with keys := (ks.set e ((valOf (r.1.take t) : Nat) : Int)).set e ((valOf (r.1.take (t + 1)) : Nat) : Int) } := E66
    rw [hss] at E66
    exact E66
  · have ht8 : t = 8 := by omega
    subst ht8
    rw [List.take_of_length_le (by omega)] at E52
    refine ⟨by omega, by omega, e, by omega, e, o52, ks.set e (valOf r.1), by congr 2; omega, rfl, by omega, by rw [List.length_set]; exact hks, (s8.trans s46').trans s52, E52, ?_⟩
    rw [← hB]
    show _ = (if tells S R.olds e ks then _ else _)
    rw [if_pos ht, hr]
end
open W (OwnB GivesW)
structure CH (w : World) (o : Own) (cg : Chg) (wa : Option Addr) (wc : Nat) (l : List Wr) (oa : Option Addr) (oc : Nat) : Prop where
  ws : Row w o wa (l.flatMap Wr.C)
  m : l.map Wr.p = cg.ws
  bs : ∀ x ∈ l, Row w o x.a (bytesV x.b) ∧ x.b.length ≤ x.c ∧ x.b.length < 1000000
  old : Row w o oa (bytesV cg.old)
  ol : cg.old.length < 1000000
  n : l.length < 1000000
theorem CH.step {K : Nat → Prop} {w w' : World} {o o' : Own} {cg : Chg} {wa oa : Option Addr} {wc oc : Nat} {l : List Wr} (h : CH w o cg wa wc l oa oc) (s : Step K w o w' o') : CH w' o' cg wa wc l oa oc :=
  ⟨h.ws.step s, h.m, fun x hx => ⟨(h.bs x hx).1.step s, (h.bs x hx).2⟩, h.old.step s, h.ol, h.n⟩
def idxW (l : List Wr) (n : Int) : Int := match l.findIdx? (fun x => x.who == n) with | some i => i | none => -1
def toldBy (S : OS) (R : Rng) (c : Chg) : Int × Int := match c.ws.find? (fun p => p.1 == R.who) with | some p => Q11 S R.secret p.2 | none => (0, 11)
def learnK (S : OS) (R : Rng) (c : Chg) : Rng × Int :=
  if c.kd ≠ 3 ∨ rightM c = false then (R, 1)
  else if 20 ≤ R.keys.length then (R, 3)
  else ({ R with keys := backK S (R.olds ++ [c.old]) R.keys.length (R.keys ++ [(toldBy S R c).1]), olds := R.olds ++ [c.old] }, (toldBy S R c).2)
theorem Q1S {K : Nat → Prop} {w w' : World} {o o' : Own} {b : Nat} {t : TypeId} {cs : List Value} (h : Blk w b t cs ∧ o b = none) (s : Step K w o w' o') : Blk w' b t cs ∧ o' b = none :=
  ⟨h.1.ext s.ext (fun ⟨k, h1, _⟩ => by rw [h.2] at h1; cases h1), by rw [s.own h.1.lt]; exact h.2⟩
theorem Q3T (l : List Wr) (n : Int) : (∃ (i : Nat) (x : Wr), l[i]? = some x ∧ x.who = n ∧ idxW l n = (i : Int) ∧ (l.map Wr.p).find? (fun p => p.1 == n) = some x.p) ∨ (idxW l n = -1 ∧ (l.map Wr.p).find? (fun p => p.1 == n) = none) := by
  unfold idxW
  induction l with
  | nil => exact .inr ⟨rfl, rfl⟩
  | cons y r ih =>
    rw [List.findIdx?_cons, List.map_cons, List.find?_cons]
    by_cases hy : (y.who == n) = true
    · have hp : (y.p.1 == n) = true := hy
      rw [if_pos hy, hp]
      exact .inl ⟨0, y, rfl, by simpa using hy, rfl, rfl⟩
    · have hp : (y.p.1 == n) = false := by show (y.who == n) = false; simpa using hy
      rw [if_neg hy, hp]
      rcases ih with ⟨i, x, h1, h2, h3, h4⟩ | ⟨h3, h4⟩
      · cases hf : r.findIdx? (fun x => x.who == n) with
        | none => rw [hf] at h3; exact absurd h3 (by show ¬ (-1 : Int) = _; omega)
        | some j =>
          rw [hf] at h3
          have : j = i := by have h3 : (j : Int) = i := h3; omega
          subst this
          exact .inl ⟨j + 1, x, h1, h2, rfl, h4⟩
      · cases hf : r.findIdx? (fun x => x.who == n) with
        | none => exact .inr ⟨rfl, h4⟩
        | some j => rw [hf] at h3; have h3 : (j : Int) = -1 := h3; omega
section
variable {w w' w1 : World} {o o' o1 : Own} {q k p N m : Nat} {K : Nat → Prop} {R : Rng} {S : OS} {b : List UInt8} {a : Option Addr} {c : Nat} {l : List Wr} {cg : Chg} {wa oa : Option Addr} {wc oc : Nat}
theorem Q61 {qc : Nat} (h : EG w o q k R) (hq : w.cell? (blk qc) = some (.pointer (some (blk q)))) (x : Wr) :
    Calls Try.prog 57 #[.agg #[.int .i64 x.who, .slice x.a x.b.length x.c], .pointer (some (blk qc))] w (Ret (.bool (x.who == R.who)) fun w' => Ext no w w') := by
  refine Q0I.run _ _ _ _ _ ?_
  unfold Q0I.N
  exact ⟨_, hq, _, rfl, _, h.who, fun w5 X5 => ⟨rfl, X5⟩⟩
theorem Q5M {qc : Nat} (h : EG w o q k R) (hq : Blk w qc 34 [.pointer (some (blk q))]) (ok : Tags w o) (hr : RowAt w wa (l.flatMap Wr.C)) (hl : l.length < 1000000) :
    Calls Try.prog 58 #[.slice wa l.length wc, .func (.func 57) #[] #[.pointer (some (blk qc))]] w (Ret (.int .i64 (idxW l R.who)) fun w' => Ext no w w') := by
  refine Q07.run _ _ _ _ _ _ ?_
  unfold Q07.N
  refine ⟨fun m vs w1 => ∃ t : Nat, vs = [.int .i64 t] ∧ m + t = l.length ∧ Ext no w w1 ∧ ∀ i x, i < t → l[i]? = some x → (x.who == R.who) = false, l.length, ⟨0, rfl, rfl, Ext.refl _ _, fun i x h => absurd h (by omega)⟩, ?_⟩
  rintro m w6 i ⟨t, hi, hm, X6, hn⟩
  simp only [List.cons.injEq, Value.int.injEq, true_and, and_true] at hi
  subst hi
  refine ⟨fun ht => ?_, fun ht => ?_⟩
  · have htl : t < l.length := by omega
    have hg : l[t]? = some l[t] := List.getElem?_eq_getElem htl
    generalize l[t] = x at *
    have hr6 := hr.no X6
    obtain ⟨ad, rfl⟩ := hr6.faddr Wr.len (by decide) htl
    have s6 := Step.of_no X6 ok
    refine ⟨ad, rfl, by omega, by omega, x.who, x.a, x.b.length, x.c, by rw [Int.toNat_natCast]; exact hr6.floads Wr.len hg, by kernel_rfl, ?_⟩
    refine Calls.mono (Q61 (h.step s6 id) ((hq.ext X6 id).cella (i := 0) rfl) x) fun u w14 ⟨he, X14⟩ => ⟨_, he, fun hy => ?_, fun hno => ⟨by omega, by omega, m - 1, by omega, t + 1, rfl, by omega, X6.trans X14, fun i y hi hy => ?_⟩⟩
    · have : idxW l R.who = (t : Int) := by
        unfold idxW
        have hf : l.findIdx? (fun x => x.who == R.who) = some t := by
          rw [List.findIdx?_eq_some_iff_getElem]
          refine ⟨htl, ?_, fun j hj => ?_⟩
          · rw [List.getElem?_eq_getElem htl] at hg
            rw [Option.some.inj hg]; exact hy
          · rw [hn j _ hj (List.getElem?_eq_getElem (by omega))]; decide
        rw [hf]
      rw [this]
      exact ⟨rfl, X6.trans X14⟩
    · by_cases hit : i = t
      · subst hit
        rw [hg] at hy
        cases hy
        exact hno
      · exact hn i y (by omega) hy
  · have : idxW l R.who = -1 := by
      unfold idxW
      have hf : l.findIdx? (fun x => x.who == R.who) = none := by
        rw [List.findIdx?_eq_none_iff]
        intro y hy
        obtain ⟨i, hi⟩ := List.mem_iff_getElem?.1 hy
        exact hn i y (by have := (List.getElem?_eq_some_iff.1 hi).1; omega) hi
      rw [hf]
    rw [this]
    exact ⟨rfl, X6⟩
theorem Q3D {Φ : World → Prop} {qc pp : Nat} {x v : Int} (h : EG w o q k R) (hP : POrc w o k S) (ok : Tags w o) (hqk : q ≠ k) (hS : Short S) (hl : R.keys.length = R.olds.length) (h1 : R.keys.length < 1000) (hol : ∀ b ∈ R.olds, b.length < 1000000)
    (hq : Blk w qc 34 [.pointer (some (blk q))] ∧ o qc = none) (M : Mine [pp] w o) (hpq : pp ≠ q) (hold : Row w o oa (bytesV b)) (hb : b.length < 1000000) (hv : x = v)
    (hΦ : ∀ w' o', Step (fun j => j = q) w o w' o' → EG w' o' q k { R with keys := backK S (R.olds ++ [b]) R.keys.length (R.keys ++ [x]), olds := R.olds ++ [b] } → Φ w') :
    ∃ (x52 : Option Addr), w.cell? (blk qc) = some (.pointer x52) ∧
    ∃ (x54 : Option Addr), w.cell? (blk qc) = some (.pointer x54) ∧
    ∃ a55 : Addr, x54 = some a55 ∧
    ∃ (keys57a : Option Addr) (keys57n keys57c : Nat), w.cell? (a55.add 3) = some (.slice keys57a keys57n keys57c) ∧
    ∀ (ww58 : World) (q59 : Nat), Ext no w ww58 → Blk ww58 q59 36 [.int .u64 v] → w.heap.size ≤ q59 → q59 < ww58.heap.size →
    ww58.cell? (a55.add 3) = some (.slice keys57a keys57n keys57c) ∧
    ww58.cell? (blk qc) = some (.pointer x54) ∧
    ww58.cell? (blk qc) = some (.pointer x52) ∧
    ∃ (a63a : Option Addr) (a63n a63c : Nat) (ww64 : World), (Builtin.append_ #[22, 22] 22 #[.slice keys57a keys57n keys57c, .slice (some (blk q59)) 1 1]).run Try.prog ww58 = .ok (.slice a63a a63n a63c) ww64 ∧
    Keep [pp] ww58 ww64 ∧
    ww64.cell? (blk qc) = some (.pointer x52) ∧
    ∃ a66 : Addr, x52 = some a66 ∧
    Q0d ww64 ((a66.add 3).add 0) ∧
    (∀ p ∈ [pp], p ≠ Addr.block (a66.add 3)) ∧
    thenW (ww64.setCell ((a66.add 3).add 0) (.slice a63a a63n a63c)) fun ww67 =>
    ∃ (x70 : Option Addr), ww67.cell? (blk qc) = some (.pointer x70) ∧
    ∃ (x72 : Option Addr), ww67.cell? (blk qc) = some (.pointer x72) ∧
    ∃ a73 : Addr, x72 = some a73 ∧
    ∃ (olds75a : Option Addr) (olds75n olds75c : Nat), ww67.cell? (a73.add 4) = some (.slice olds75a olds75n olds75c) ∧
    ∀ (ww68 : World), Ext no ww67 ww68 →
    Calls Try.prog 60 #[.slice oa b.length oc] ww68 fun ee77 ww78 => ∃ (clone76a : Option Addr) (clone76n clone76c : Nat), ee77 = .returned (.slice clone76a clone76n clone76c) ∧
    ww78.cell? (a73.add 4) = some (.slice olds75a olds75n olds75c) ∧
    ww78.cell? (blk qc) = some (.pointer x72) ∧
    ww78.cell? (blk qc) = some (.pointer x70) ∧
    ∀ (ww82 : World) (q83 : Nat), Ext no ww78 ww82 → Blk ww82 q83 25 [.slice clone76a clone76n clone76c] → ww78.heap.size ≤ q83 → q83 < ww82.heap.size →
    ww82.cell? (a73.add 4) = some (.slice olds75a olds75n olds75c) ∧
    ww82.cell? (blk qc) = some (.pointer x72) ∧
    ww82.cell? (blk qc) = some (.pointer x70) ∧
    ∃ (a87a : Option Addr) (a87n a87c : Nat) (ww88 : World), (Builtin.append_ #[59, 59] 59 #[.slice olds75a olds75n olds75c, .slice (some (blk q83)) 1 1]).run Try.prog ww82 = .ok (.slice a87a a87n a87c) ww88 ∧
    ww88.cell? (blk qc) = some (.pointer x70) ∧
    ∃ a90 : Addr, x70 = some a90 ∧
    Q0d ww88 ((a90.add 4).add 0) ∧
    thenW (ww88.setCell ((a90.add 4).add 0) (.slice a87a a87n a87c)) fun ww91 =>
    ∃ (x93 : Option Addr), ww91.cell? (blk qc) = some (.pointer x93) ∧
    Calls Try.prog 61 #[.pointer x93] ww91 fun ee94 ww95 => ee94 = .returned (.tuple #[]) ∧
    Φ ww95 := by
  subst hv
  obtain ⟨ka, kc, hc3⟩ := h.keysC
  have cq : ∀ {w' : World} {o' : Own} {K : Nat → Prop}, Step K w o w' o' → w'.cell? (blk qc) = some (.pointer (some (blk q))) := fun s => (Q1S hq s).1.cella (i := 0) rfl
  have cq0 := cq (Step.refl no ok)
  have hkq : ¬ k = q := fun e => hqk e.symm
  refine ⟨_, cq0, _, cq0, _, rfl, _, _, _, hc3, fun w58 q59 X58 b58 hq59 hq59' => ?_⟩
  have s58 := Step.of_no X58 ok
  have h58 := h.step s58 id
  refine ⟨X58.cell hc3 id, cq s58, cq s58, ?_⟩
  obtain ⟨a6, n6, c6, w64, o64, hrun, s64, hcan, hst⟩ := h58.pushKey s58.ok (by omega) x b58 (X58.cell hc3 id)
  have s64' := s58.none.trans s64
  refine ⟨a6, n6, c6, w64, hrun, (M.step s58).keep s64 (fun p hp => by rw [List.mem_singleton.1 hp]; exact hpq), cq s64', _, rfl, ?_⟩
  have a30 : ((blk q).add 3).add 0 = (blk q).add 3 := by rw [add_add]
  rw [a30]
  refine ⟨hcan, fun p hp => by rw [List.mem_singleton.1 hp, Q18]; exact hpq, Q01 fun w67 e67 => ?_⟩
  obtain ⟨s67, E67⟩ := hst w67 e67
  have s67' := s58.none.trans s67
  obtain ⟨oa1, oc1, hc4⟩ := E67.oldsC
  refine ⟨_, cq s67', _, cq s67', _, rfl, _, _, _, hc4, fun w68 X68 => ?_⟩
  have s68 := Step.of_no X68 s67'.ok
  refine (Q1D ((hold.step s67').step s68).1 (by omega)).mono fun u w78 ⟨ca, cc, he, hcc, hcr, X78, hcf⟩ => ⟨_, _, _, he, ?_⟩
  have s78 := Step.of_no X78 s68.ok
  have s678 := s68.trans s78
  have s78' := s67'.trans s678.none
  have X6778 := X68.trans X78
  have bsx : BSk w78 (grow w68 (grow w67 (grow w64 o64))) ⟨ca, cc, b⟩ := ⟨Row.fresh hcr fun ad ha => (hcf ad ha).1, hcc⟩
  refine ⟨X6778.cell hc4 id, cq s78', cq s78', fun w82 q83 X82 b82 hq83 hq83' => ?_⟩
  have s82 := Step.of_no X82 s78.ok
  have s82' := s78'.trans s82.none
  have E82 := (E67.step s678 id).step s82 id
  refine ⟨(X6778.trans X82).cell hc4 id, cq s82', cq s82', ?_⟩
  obtain ⟨a8, n8, c8, w88, o88, hrun8, s88, hcan8, hst8⟩ := E82.pushOld s82.ok (by show R.olds.length < 1000000; omega) (bsx.step s82) b82 ((X6778.trans X82).cell hc4 id)
  have s88' := s82'.trans s88
  have a40 : ((blk q).add 4).add 0 = (blk q).add 4 := by rw [add_add]
  refine ⟨a8, n8, c8, w88, hrun8, cq s88', _, rfl, ?_⟩
  rw [a40]
  refine ⟨hcan8, Q01 fun w91 e91 => ?_⟩
  obtain ⟨s91, E91⟩ := hst8 w91 e91
  have s91' := s82'.trans s91
  refine ⟨_, cq s91', ?_⟩
  have E91 : EG w91 (grow w88 o88) q k { R with keys := R.keys ++ [x], olds := R.olds ++ [b] } := E91
  have hlen : (R.keys ++ [x]).length = R.keys.length + 1 := by simp
  have bk := Q5P E91 (hP.step s91' hkq) s91'.ok hqk hS (by show (R.keys ++ [x]).length = (R.olds ++ [b]).length; simp [hl]) (by show 0 < (R.keys ++ [x]).length; omega) (by show (R.keys ++ [x]).length < _; omega) (fun y hy => by
    rcases List.mem_append.1 hy with hy | hy
    · exact hol y hy
    · rw [List.mem_singleton.1 hy]; exact hb)
  refine Calls.mono bk fun u w95 ⟨he, o95, s95, E95⟩ => ⟨he, hΦ w95 o95 (s91'.trans s95) ?_⟩
  have E95 : EG w95 o95 q k { R with keys := backK S (R.olds ++ [b]) ((R.keys ++ [x]).length - 1) (R.keys ++ [x]), olds := R.olds ++ [b] } := E95
  rw [hlen, Nat.add_sub_cancel] at E95
  exact E95
theorem Q3H (h : EG w o q k R) (hP : POrc w o k S) (ok : Tags w o) (hqk : q ≠ k) (hS : Short S) (hl : R.keys.length = R.olds.length) (h1 : R.keys.length < 1000) (hol : ∀ b ∈ R.olds, b.length < 1000000) (hC : CH w o cg wa wc l oa oc) :
    Calls Try.prog 25 #[.pointer (some (blk q)), chgV cg wa wc oa oc] w (Ret (.int .i64 (learnK S R cg).2) fun w' => ∃ o', Step (fun j => j = q) w o w' o' ∧ EG w' o' q k (learnK S R cg).1) := by
  refine Q0l.run _ _ _ _ _ _ _ _ _ _ _ ?_
  unfold Q0l.N
  intro w8 qc X8 b8 hqc hqc'
  have s8 := Step.of_no X8 ok
  have hq8 : Blk w8 qc 34 [.pointer (some (blk q))] ∧ grow w o qc = none := ⟨b8, grow_ge hqc⟩
  have bad : ∀ (k2 : Int) (w9 : World) (o9 : Own), learnK S R cg = (R, k2) → Step no w o w9 o9 → Value.int .i64 k2 = .int .i64 (learnK S R cg).2 ∧ ∃ o', Step (fun j => j = q) w o w9 o' ∧ EG w9 o' q k (learnK S R cg).1 := fun k2 w9 o9 hK s9 => by
    rw [hK]; exact ⟨rfl, o9, s9.none, h.step s9 id⟩
  have hlen : cg.ws.length = l.length := by rw [← hC.m]; simp
  refine ⟨_, b8.cella (i := 0) rfl, fun e => (by cases e), fun _ => ⟨fun hk w10 X10 => ?_, fun hk w10 pp X10 P10 => ?_⟩⟩
  · exact bad 1 w10 _ (by unfold learnK; rw [if_pos (.inl hk)]) (s8.trans (Step.of_no X10 s8.ok))
  obtain ⟨s10', M10⟩ := Step.priv X10 P10 s8.ok
  have s10 := s8.trans s10'
  have hpp := P10 pp (by simp)
  have l8 := X8.size
  have hql := h.lt
  have hpq : pp ≠ q := by omega
  have R10 := Q3X (w := w10) (cg := cg) (wa := wa) (oa := oa) (wc := wc) (oc := oc) (hC.step s10).ws.1 hC.m hC.n hC.ol
  refine Calls.mono R10 fun u w20 ⟨he, X20⟩ => ⟨_, he, (M10.keep (Step.of_no X20 s10'.ok) fun _ _ h => h), fun hr => ?_, fun hr => ?_⟩
  · exact bad 1 w20 _ (by unfold learnK; rw [if_pos (.inr hr)]) (s10.trans (Step.of_no X20 s10.ok))
  have t20 := Step.of_no X20 s10.ok
  have s20 := s10.trans t20
  have M20 := M10.step t20
  have E20 := h.step s20 id
  have hq20 := Q1S (Q1S hq8 s10') t20
  obtain ⟨ka, kc, hc3⟩ := E20.keysC
  refine ⟨_, hq20.1.cella (i := 0) rfl, _, rfl, _, _, _, hc3, fun h20 => ?_, fun h20 => ?_⟩
  · exact bad 3 w20 _ (by unfold learnK; rw [if_neg (by rw [hr]; simp [hk]), if_pos (by omega)]) s20
  have hK : learnK S R cg = ({ R with keys := backK S (R.olds ++ [cg.old]) R.keys.length (R.keys ++ [(toldBy S R cg).1]), olds := R.olds ++ [cg.old] }, (toldBy S R cg).2) := by
    unfold learnK; rw [if_neg (by rw [hr]; simp [hk]), if_neg (by omega)]
  have hCw := (hC.step s20).ws.1
  have ix := Q5M (wc := wc) E20 hq20.1 s20.ok hCw hC.n
  rw [hlen]
  refine Calls.mono ix fun u w30 ⟨he, X30⟩ => ⟨_, he, M20.keep (Step.of_no X30 s20.ok) (fun _ _ h => h), ?_⟩
  have t30 := Step.of_no X30 s20.ok
  have s30 := s20.trans t30
  have M30 := M20.step t30
  have E30 := h.step s30 id
  have P30 := hP.step s30 id
  have C30 := hC.step s30
  have hq30 := Q1S hq20 t30
  have fin : ∀ (x : Int) (w9 : World) (o9 : Own), (toldBy S R cg).2 = x → ∀ (w1 : World) (o1 : Own), Step no w o w1 o1 → Step (fun j => j = q) w1 o1 w9 o9 → EG w9 o9 q k { R with keys := backK S (R.olds ++ [cg.old]) R.keys.length (R.keys ++ [(toldBy S R cg).1]), olds := R.olds ++ [cg.old] } → Value.int .i64 x = .int .i64 (learnK S R cg).2 ∧ ∃ o', Step (fun j => j = q) w o w9 o' ∧ EG w9 o' q k (learnK S R cg).1 := fun x w9 o9 hx w1 o1 s1 s9 E9 => by
    rw [hK, ← hx]; exact ⟨rfl, o9, s1.none.trans s9, E9⟩
  refine ⟨fun hge => ?_, fun hlt => ?_⟩
  · rcases Q3T l R.who with ⟨i, x, g1, g2, g3, g4⟩ | ⟨g3, g4⟩
    · have ht : toldBy S R cg = Q11 S R.secret x.b := by unfold toldBy; rw [← hC.m, g4]; rfl
      have hil := (List.getElem?_eq_some_iff.1 g1).1
      obtain ⟨ad, had⟩ := C30.ws.1.faddr Wr.len (by decide) hil
      have hw30 := C30.ws.1
      rw [had] at hw30
      have cB : w30.cell? ((ad.add (i * 2)).add 1) = some (.slice x.a x.b.length x.c) := hw30.fcell Wr.len g1 1 rfl
      rw [g3]
      refine ⟨_, hq30.1.cella (i := 0) rfl, _, rfl, _, E30.orc, _, hq30.1.cella (i := 0) rfl, _, rfl, _, E30.secret, ad, had, by omega, by omega, _, _, _, by rw [Int.toNat_natCast]; exact cB, fun w32 X32 => ?_⟩
      have t32 := Step.of_no X32 s30.ok
      have s32 := s30.trans t32
      obtain ⟨x1, x2, x3⟩ := (hC.step s32).bs x (List.mem_of_getElem? g1)
      refine Calls.mono (UnwrapO (hP.step s32 id) R.secret x1.1 x3 x2) fun u w49 ⟨he, X49⟩ => ⟨_, _, he, (M30.step t32).keep (Step.of_no X49 s32.ok) (fun _ _ h => h), ?_⟩
      have t49 := Step.of_no X49 s32.ok
      have s49 := s32.trans t49
      have M49 := (M30.step t32).step t49
      refine Q3D (h.step s49 id) (hP.step s49 id) s49.ok hqk hS hl h1 hol (Q1S (Q1S hq30 t32) t49) M49 hpq (hC.step s49).old hC.ol (show (toldBy S R cg).1 = (Q11 S R.secret x.b).1 by rw [ht]) fun w9 o9 s9 E9 => ?_
      exact fin _ w9 o9 (by rw [ht]) _ _ s49 s9 E9
    · rw [g3] at hge; exact absurd hge (by decide)
  · rcases Q3T l R.who with ⟨i, x, g1, g2, g3, g4⟩ | ⟨g3, g4⟩
    · rw [g3] at hlt; omega
    · have ht : toldBy S R cg = (0, 11) := by unfold toldBy; rw [← hC.m, g4]
      refine Q3D E30 P30 s30.ok hqk hS hl h1 hol hq30 M30 hpq C30.old hC.ol (show (toldBy S R cg).1 = 0 by rw [ht]) fun w9 o9 s9 E9 => ?_
      exact fin _ w9 o9 (by rw [ht]) _ _ s30 s9 E9
end
open W (OwnB GivesW)
def only (k : Nat) (w : World) (o o' : Own) : Own := fun b => if b < w.heap.size then o b else if o' b = some k then some k else none
section
variable {w0 w w' w1 : World} {o0 o o' o1 : Own} {q k p N m : Nat} {K : Nat → Prop} {S : OS} {b : List UInt8} {a : Option Addr} {c : Nat} {cs : List Value}
theorem only_k (s : Step K w0 o0 w o) {b : Nat} (h : o b = some k) : only k w0 o0 o b = some k := by
  unfold only
  split
  · rename_i hb; rw [← s.same b hb]; exact h
  · first | rfl | rw [if_pos h]
theorem only_of (s : Step K w0 o0 w o) {b j : Nat} (h : only k w0 o0 o b = some j) : o b = some j := by
  unfold only at h
  split at h
  · rename_i hb; rw [s.same b hb]; exact h
  · split at h
    · rename_i h2; rw [h2, ← h]
    · cases h
theorem Q5S (s : Step K w0 o0 w o) {b : Nat} (h : o b = none) : only k w0 o0 o b = none := by
  cases hc : only k w0 o0 o b with
  | none => rfl
  | some j => rw [only_of s hc] at h; cases h
theorem Q26 (s : Step K w0 o0 w o) (k : Nat) : Step K w0 o0 w (only k w0 o0 o) :=
  ⟨s.ext, fun b hb => if_pos hb, s.ok0, fun b j hb hj => s.ok b j hb (only_of s hj)⟩
theorem Q1A (h : Row w o a cs) (s : Step K w0 o0 w o) (k : Nat) : Row w (only k w0 o0 o) a cs := ⟨h.1, fun h0 ad ha => Q5S s (h.2 h0 ad ha)⟩
theorem Q2t {e : TypeId} {size n : Nat} (h : LRow e size N w o a n c cs) (s : Step K w0 o0 w o) (hN : w0.heap.size ≤ N) (hk : k < N) : Row w (only k w0 o0 o) a cs := ⟨h.row, fun h0 ad ha => by
  rcases h with ⟨h1, h2, h3, h4⟩ | ⟨j, hj, hjw, g⟩
  · exact absurd h4 h0
  · have hg := g.tg ad ha
    show (if ad.block < w0.heap.size then o0 ad.block else if o ad.block = some k then some k else none) = none
    split
    · rename_i hb
      rw [s.same _ hb] at hg
      have := s.ok0 _ _ hb hg.1
      omega
    · rw [if_neg (fun e => by rw [hg.1] at e; cases e; omega)]⟩
theorem POrc.only (h : POrc w o k S) (s : Step K w0 o0 w o) : POrc w (only k w0 o0 o) k S := by
  obtain ⟨g, rfl, h1, h2, h3⟩ := h
  exact ⟨g, rfl, h1, fun b hb => only_k s (h2 b hb), fun b hb j hj hne => h3 b hb j (only_of s hj) hne⟩
theorem WRow.push {l : List Wr} (h : WRow N w o a c l) (ok : Tags w o) (hl : l.length < 1000000) (x : Wr) {q : Nat} (hb : Blk w q 115 x.C) (hq : N ≤ q) (hq' : q < w.heap.size) :
    ∃ a' n' c' w' o', (Builtin.append_ #[70, 70] 70 #[.slice a l.length c, .slice (some (blk q)) 1 1]).run Try.prog w = .ok (.slice a' n' c') w' ∧ n' = (l ++ [x]).length ∧ Step (fun j => N ≤ j) w o w' o' ∧ WRow N w' o' a' c' (l ++ [x]) ∧ Ext (fun b => ∃ ad, a = some ad ∧ b = ad.block) w w' := by
  obtain ⟨i, hi, hz, hsz, hby⟩ := info_of inf115
  obtain ⟨a', c', w', o', hrun, s2, hrow, hX⟩ := LRow.push (ty := 70) Try.underlying70 hi hz hsz hby rfl (by decide) h ok hq hq' (xa := some (blk q)) (m := 1) (xc := 1) (news := x.C) rfl (RowAt.of_blk hb) (fun u hu => by
    simp [Wr.C] at hu
    rcases hu with rfl | rfl <;> rfl) (by omega) (by omega)
  refine ⟨a', _, c', w', o', hrun, by simp, s2, ?_, hX⟩
  unfold WRow
  rw [List.length_append, List.flatMap_append]
  simpa using hrow
end

def wrapsL (S : OS) (key : Int) : List Mem → OS × List (Int × List UInt8)
  | [] => (S, [])
  | m :: r => ((wrapsL (wrapOf S m.pub key).2 key r).1, (m.who, (wrapOf S m.pub key).1.1) :: (wrapsL (wrapOf S m.pub key).2 key r).2)
theorem Q2p (key : Int) (m : Mem) : ∀ (l : List Mem) (S : OS), wrapsL S key (l ++ [m]) = ((wrapOf (wrapsL S key l).1 m.pub key).2, (wrapsL S key l).2 ++ [(m.who, (wrapOf (wrapsL S key l).1 m.pub key).1.1)])
  | [], S => rfl
  | x :: r, S => by
    have ih := Q2p key m r (wrapOf S x.pub key).2
    show ((wrapsL (wrapOf S x.pub key).2 key (r ++ [m])).1, (x.who, (wrapOf S x.pub key).1.1) :: (wrapsL (wrapOf S x.pub key).2 key (r ++ [m])).2) = _
    rw [ih]
    rfl
def beginK (S : OS) (s : MS) (last : Int) : Chg × Int × OS :=
  let S1 := (keyOf S).2
  let key := (keyOf S).1
  let W := wrapsL S1 key (nowM s.ml)
  if 0 ≤ s.ep then (⟨3, 0, 0, 0, W.2, (sealOf W.1 key (boundE (s.ep + 1)) (boxL last.toNat 0)).1.1⟩, key, (sealOf W.1 key (boundE (s.ep + 1)) (boxL last.toNat 0)).2)
  else (⟨3, 0, 0, 0, W.2, []⟩, key, W.1)
theorem Q5q (S : OS) (p key : Int) : (wrapOf S p key).2.publics = S.publics ∧ (wrapOf S p key).2.keys = S.keys ∧ (wrapOf S p key).2.secrets = S.secrets ∧ (wrapOf S p key).2.sealed = S.sealed := by
  have hf := Q0R S
  unfold wrapOf
  split
  · split
    · exact ⟨hf.2.2.2.1, hf.2.1, hf.2.2.1, by first | exact hf.2.2.2.2.2.2.1 | exact hf.2.2.2.2.1 | exact hf.2.2.2.2.2.1⟩
    · exact ⟨rfl, rfl, rfl, rfl⟩
  · exact ⟨rfl, rfl, rfl, rfl⟩
theorem Q1L (key : Int) : ∀ (l : List Mem) (S : OS), S.ok → (wrapsL S key l).1.publics = S.publics ∧ (wrapsL S key l).1.keys = S.keys ∧ (wrapsL S key l).1.secrets = S.secrets ∧ (wrapsL S key l).1.sealed = S.sealed ∧ (wrapsL S key l).1.ok ∧ (wrapsL S key l).1.used.length ≤ S.used.length + l.length ∧ (wrapsL S key l).2.length = l.length
  | [], S, h => ⟨rfl, rfl, rfl, rfl, h, Nat.le_refl _, rfl⟩
  | m :: r, S, h => by
    obtain ⟨f1, f2, f3, f4⟩ := Q5q S m.pub key
    obtain ⟨k1, k2⟩ := Q62 h m.pub key
    obtain ⟨g1, g2, g3, g4, g5, g6, g7⟩ := Q1L key r (wrapOf S m.pub key).2 k1
    refine ⟨g1.trans f1, g2.trans f2, g3.trans f3, g4.trans f4, g5, ?_, ?_⟩
    · show (wrapsL (wrapOf S m.pub key).2 key r).1.used.length ≤ S.used.length + (r.length + 1); omega
    · show (wrapsL (wrapOf S m.pub key).2 key r).2.length + 1 = r.length + 1; omega
theorem Q3g (S : OS) : (keyOf S).2.publics = S.publics ∧ (keyOf S).2.secrets = S.secrets ∧ (keyOf S).2.sealed = S.sealed ∧ (keyOf S).2.wrapped = S.wrapped ∧ (keyOf S).2.keys = badd S.keys (keyOf S).1 := by
  have hf := Q0R S
  unfold keyOf
  exact ⟨hf.2.2.2.1, hf.2.2.1, by first | exact hf.2.2.2.2.2.2.1 | exact hf.2.2.2.2.1 | exact hf.2.2.2.2.2.1, by first | exact hf.2.2.2.2.2.2.2 | exact hf.2.2.2.2.2.1 | exact hf.2.2.2.2.2.2.2.1, rfl⟩
theorem Q3b {S : OS} {p key : Int} (hp : (alook S.publics p).isSome) (hk : key ∈ S.keys) : wrapOf S p key = ((boxL (freshOf S).1.toNat 8, 0), { (freshOf S).2 with wrapped := aput S.wrapped (freshOf S).1 (p, key) }) := by
  unfold wrapOf
  rw [if_pos hp, if_pos hk]
theorem key_in (S : OS) : (keyOf S).1 ∈ (keyOf S).2.keys := by
  rw [(Q3g S).2.2.2.2]
  exact Q1H.2 (.inr rfl)
section
variable {w w' w1 : World} {o o' o1 : Own} {q k p N m : Nat} {K : Nat → Prop} {S : OS} {s : MS} {a : Option Addr} {c : Nat}
theorem Q5v (hP : POrc w o k S) (ok : Tags w o) (hS : S.ok) (hlen : S.used.length + 20 < 1000000) (hr : Row w o a (s.ml.flatMap Mem.C)) (hs : s.ok) {last : Int} (hl0 : 0 ≤ last) (hl1 : last < 18446744073709551616)
    (hpub : ∀ m ∈ nowM s.ml, (alook S.publics m.pub).isSome) (hne : nowM s.ml ≠ []) :
    Calls Try.prog 21 #[.pointer (some (blk k)), .agg #[.slice a s.ml.length c, .int .i64 s.ep], .int .u64 last] w (fun x w' => ∃ o' wa wc oa oc, ∃ l : List Wr, x = .returned (.tuple #[chgV (beginK S s last).1 wa wc oa oc, .int .u64 (beginK S s last).2.1, .int .i64 0]) ∧ Step (fun j => j = k) w o w' o' ∧ POrc w' o' k (beginK S s last).2.2 ∧ CH w' o' (beginK S s last).1 wa wc l oa oc ∧ l.length ≤ wc ∧ (beginK S s last).1.old.length ≤ oc) := by
  refine (Q0V.go _ _ _ _ _ _ (R := fun v w' => ∃ o' wa wc oa oc, ∃ l : List Wr, v = (.tuple #[chgV (beginK S s last).1 wa wc oa oc, .int .u64 (beginK S s last).2.1, .int .i64 0]) ∧ Step (fun j => j = k) w o w' o' ∧ POrc w' o' k (beginK S s last).2.2 ∧ CH w' o' (beginK S s last).1 wa wc l oa oc ∧ l.length ≤ wc ∧ (beginK S s last).1.old.length ≤ oc) ?_).mono fun x w' ⟨v, he, o', wa, wc, oa, oc, l, hv, hw⟩ => ⟨o', wa, wc, oa, oc, l, by rw [he, hv], hw⟩
  unfold Q0V.N
  have hkl := hP.lt
  have hml := hs.le
  have hnl : (nowM s.ml).length ≤ 8 := Nat.le_trans (List.length_filter_le _ _) hml
  refine ⟨fun e => (by cases e), fun _ w6 p1 p2 X6 P6 => ?_⟩
  obtain ⟨s6, M6⟩ := Step.priv X6 P6 ok
  have g6 : ∀ p ∈ [p1, p2], w.heap.size ≤ p ∧ p < w6.heap.size := P6
  have gp1 := g6 p1 (by simp)
  have gp2 := g6 p2 (by simp)
  have kM : ∀ p ∈ [p1, p2], ¬ p = k := fun p hp => by have := (g6 p hp).1; omega
  refine Calls.mono (KeyO (hP.step s6 id) s6.ok hS (by omega)) fun u w20 ⟨o20, he, s20', P20⟩ => ⟨_, he, M6.keep s20' kM, fun w21 X21 => ?_⟩
  have M20 := M6.step s20'
  have s20 : Step (fun j => j = k) w o w20 o20 := s6.none.trans s20'
  obtain ⟨o21, s21'⟩ := Step.store1 X21 s20.ok (M20 p2 (by simp)).2
  have s21 : Step (fun j => j = k) w o w21 o21 := s20.trans' s21' fun i hi => .inr (by rw [hi]; exact gp2.1)
  have M21 := M20.step s21'
  have P21 := P20.step s21' (show ¬ k = p2 by omega)
  have r21 := hr.step s21
  refine Calls.mono (Q4Y r21 s21.ok (by omega) s.ep) fun u w24 ⟨o24, na, nc, he, s24', r24, hnc⟩ => ⟨_, _, _, he, M21.keep s24' (fun _ _ h => h), ?_⟩
  have s24 := s21.trans s24'.none
  have M24 := M21.step s24'
  have P24 := P21.step s24' id
  obtain ⟨key, hkey⟩ : ∃ key, (keyOf S).1 = key := ⟨_, rfl⟩
  obtain ⟨S1, hS1⟩ : ∃ S1, (keyOf S).2 = S1 := ⟨_, rfl⟩
  have ok1 := Q4g hS
  have kf := Q3g S
  have kin := key_in S
  rw [hS1] at ok1 P24 kf kin
  rw [hkey] at kin
  obtain ⟨nl, hnow⟩ : ∃ nl, nowM s.ml = nl := ⟨_, rfl⟩
  have hB : beginK S s last = if 0 ≤ s.ep then (⟨3, 0, 0, 0, (wrapsL S1 key nl).2, (sealOf (wrapsL S1 key nl).1 key (boundE (s.ep + 1)) (boxL last.toNat 0)).1.1⟩, key, (sealOf (wrapsL S1 key nl).1 key (boundE (s.ep + 1)) (boxL last.toNat 0)).2)
      else (⟨3, 0, 0, 0, (wrapsL S1 key nl).2, []⟩, key, (wrapsL S1 key nl).1) := by
    unfold beginK
    rw [hS1, hkey, hnow]
  rw [hnow] at r24 hnc hnl hpub hne
  rw [hnow, hkey]
  obtain ⟨N, hN⟩ : ∃ N, w6.heap.size = N := ⟨_, rfl⟩
  have l6 := X6.size
  have l620 := s20'.size
  have l2021 := s21'.size
  have l2124 := s24'.size
  refine ⟨fun m vs w1 => ∃ (t : Nat) (o1 : Own) (a1 : Option Addr) (c1 : Nat) (l : List Wr), vs = [.int .u64 key, .int .i64 t, .int .i64 3, .int .i64 0, .int .u64 0, .int .i64 0, .slice a1 l.length c1, .slice none 0 0] ∧ m + t = nl.length ∧ Step (fun j => j = k) w o w1 o1 ∧ POrc w1 o1 k (wrapsL S1 key (nl.take t)).1 ∧ Mine [p1, p2] w1 o1 ∧ Row w1 o1 na (nl.flatMap Mem.C) ∧ WRow N w1 o1 a1 c1 l ∧ l.map Wr.p = (wrapsL S1 key (nl.take t)).2 ∧ (∀ x ∈ l, Row w1 o1 x.a (bytesV x.b) ∧ x.b.length ≤ x.c ∧ x.b.length < 1000000) ∧ N ≤ w1.heap.size,
    nl.length, ⟨0, o24, none, 0, [], rfl, rfl, s24, P24, M24, r24, LRow.nil _ _ _ _ _, rfl, fun x hx => (by cases hx), by omega⟩, ?_⟩
  intro m w35 i0 i1 i2 i3 i4 i5 i6a i6n i6c i7a i7n i7c hI
  obtain ⟨t, o35, a1, c1, l, hi, hm, s35, P35, M35, r35, L35, hlm, hlb, hNs⟩ := hI
  simp only [List.cons.injEq, Value.slice.injEq, Value.int.injEq, true_and, and_true] at hi
  obtain ⟨hkk, rfl, rfl, rfl, rfl, rfl, ⟨rfl, rfl, rfl⟩, rfl, rfl, rfl⟩ := hi
  replace hkk := hkk.symm
  subst hkk
  have fr := Q1L key (nl.take t) S1 ok1.1
  have htl0 : (nl.take t).length ≤ 8 := by rw [List.length_take]; omega
  have hll : l.length = (nl.take t).length := by have := congrArg List.length hlm; rw [List.length_map] at this; rw [this]; exact fr.2.2.2.2.2.2
  have hus := ok1.2
  refine ⟨fun ht => ?_, fun ht => ?_⟩
  · have htl : t < nl.length := by omega
    have hg : nl[t]? = some nl[t] := List.getElem?_eq_getElem htl
    have hmem := List.getElem_mem htl
    have htk : nl.take (t + 1) = nl.take t ++ [nl[t]] := by rw [List.take_add_one, hg]; rfl
    generalize nl[t] = x at *
    have hr1 := r35.1
    obtain ⟨ad, rfl⟩ := hr1.faddr Mem.len (by decide) htl
    refine ⟨ad, rfl, by omega, by omega, x.who, x.pub, x.fr, x.to_, x.lim, by rw [Int.toNat_natCast]; exact hr1.floads Mem.len hg, fun w49 p50 X49 P49 => ?_⟩
    obtain ⟨s49', M49⟩ := Step.priv X49 P49 s35.ok
    have g50 := P49 p50 (by simp)
    have M3 : Mine [p1, p2, p50] w49 (tags w35 o35 [p50]) := fun y hy => by
      rcases List.mem_cons.1 hy with rfl | hy
      · exact (M35.step s49') _ (by simp)
      · rcases List.mem_cons.1 hy with rfl | hy
        · exact (M35.step s49') _ (by simp)
        · exact M49 _ hy
    have hxp : (alook (wrapsL S1 key (nl.take t)).1.publics x.pub).isSome := by rw [fr.1, kf.1]; exact hpub x hmem
    have hxk : key ∈ (wrapsL S1 key (nl.take t)).1.keys := by rw [fr.2.1]; exact kin
    have hw := WrapO (P35.step s49' id) s49'.ok fr.2.2.2.2.1 (by omega) x.pub key
    have hwk := Q3b hxp hxk
    refine Calls.mono hw fun u w54 ⟨o54, xa, xc, he, s54, xr, hxc, P54⟩ => ⟨_, _, _, _, he, M3.keep s54 (fun y hy => ?_), fun hne' => absurd (by rw [hwk]) hne', fun _ w62 q63 X62 b62 hq62 hq62' => ?_⟩
    · rcases List.mem_cons.1 hy with rfl | hy
      · omega
      · rcases List.mem_cons.1 hy with rfl | hy
        · omega
        · rw [List.mem_singleton.1 hy]; omega
    have s3554 := s49'.none.trans s54
    have t62 := Step.of_no X62 s54.ok
    have s62 := s3554.trans t62.none
    have L62 : WRow N w62 _ i6a i6c l := LRow.step L35 s62 fun j hj => .inl (by rw [hj]; omega)
    have l49 := X49.size
    have l54 := s54.size
    obtain ⟨a2, n2, c2, w65, o65, hrun, hn2, s65, L65, X65⟩ := L62.push s62.ok (by omega) ⟨x.who, xa, xc, (wrapOf (wrapsL S1 key (nl.take t)).1 x.pub key).1.1⟩ b62 (by omega) hq62'
    subst hn2
    have M62 := (M35.step s3554).step t62
    refine ⟨a2, _, c2, w65, hrun, M62.keep s65 (fun y hy => by have := (g6 y hy).2; omega), by omega, by omega, fun w66 X66 => ?_⟩
    have M65 := M62.step s65
    obtain ⟨o66, s66⟩ := Step.store1 X66 s65.ok (M65 p2 (by simp)).2
    have hall : Step (fun j => j = k) w o w66 o66 := ((s35.trans s62).trans' s65 fun i hi => .inr (by omega)).trans' s66 fun i hi => .inr (by rw [hi]; exact gp2.1)
    have L66 : WRow N w66 o66 a2 c2 (l ++ [⟨x.who, xa, xc, (wrapOf (wrapsL S1 key (nl.take t)).1 x.pub key).1.1⟩]) := LRow.step L65 s66 fun j hj => .inl (by rw [hj]; omega)
    have hsn := Q2p key x (nl.take t) S1
    refine ⟨m - 1, by omega, t + 1, o66, a2, c2, _, rfl, by omega, hall, ?_, M65.step s66, ((r35.step s62).step s65).step s66, L66, ?_, fun y hy => ?_, by have := X62.size; have := X65.size; have := X66.size; omega⟩
    · rw [htk, hsn]
      exact ((P54.step t62 id).step s65 (show ¬ N ≤ k by omega)).step s66 (show ¬ k = p2 by omega)
    · rw [htk, hsn, List.map_append, hlm]; rfl
    · rcases List.mem_append.1 hy with hy | hy
      · obtain ⟨y1, y2⟩ := hlb y hy
        exact ⟨((y1.step s62).step s65).step s66, y2⟩
      · rw [List.mem_singleton.1 hy]
        exact ⟨((xr.step t62).step s65).step s66, hxc, by rw [hwk, Q13]; decide⟩
  · have htt : t = nl.length := by omega
    subst htt
    rw [List.take_of_length_le (Nat.le_refl _)] at hlm P35 fr hll
    have hll0 : 0 < nl.length := by
      cases nl with
      | nil => exact absurd rfl hne
      | cons _ _ => simp
    refine ⟨fun h0 => absurd h0 (by omega), fun _ => ⟨fun hep => ?_, fun hep w98 X98 => ?_⟩⟩
    · refine ⟨by have := hs.ep1; omega, by have := hs.ep1; omega, ?_⟩
      refine (Q40 (e := s.ep + 1) (by omega) (by have := hs.ep1; omega) w35).mono fun u w78 ⟨ba, bc, he, hO, X78⟩ => ⟨_, _, _, he, ?_⟩
      have t78 := Step.of_no X78 s35.ok
      have Mp2 : Mine [p2] w35 o35 := M35.sub fun p hp => by rw [List.mem_singleton.1 hp]; simp
      refine ⟨Mp2.keep t78 (fun _ _ h => h), ?_⟩
      obtain ⟨ln, rfl⟩ := Int.eq_ofNat_of_zero_le hl0
      refine (Q5z (h := ln) (by omega) w78).mono fun u w81 ⟨ea, ec, he, hE, X81⟩ => ⟨_, _, _, he, ?_⟩
      have t81 := Step.of_no X81 t78.ok
      refine ⟨(Mp2.step t78).keep t81 (fun _ _ h => h), ?_⟩
      have t7881 := t78.trans t81
      have rb : Row w81 _ ba (bytesV (boundE (s.ep + 1))) := (Q1B hO X78 : Row w78 (grow w35 o35) ba _).step t81
      have re : Row w81 _ ea (bytesV (boxL ln 0)) := (Q1B hE X81 : Row w81 (grow w78 (grow w35 o35)) ea _)
      have hse := SealO (P35.step t7881 id) t81.ok fr.2.2.2.2.1 (by omega) key (bc := bc) (pc := ec) rb re (by have := Q4B (s.ep + 1); omega) (by rw [Q13]; decide)
      refine Calls.mono hse fun u w85 ⟨o85, za, zc, he, s85, zr, hzc, P85⟩ => ⟨_, _, _, _, he, ((Mp2.step t78).step t81).keep s85 (fun y hy => by rw [List.mem_singleton.1 hy]; omega), fun w92 X92 => ?_⟩
      have M85 := ((Mp2.step t78).step t81).step s85
      obtain ⟨o92, s92⟩ := Step.store1 X92 s85.ok (M85 p2 (by simp)).2
      have sA := t7881.none.trans s85
      have sB : Step (fun j => j = k ∨ j = p2) w35 o35 w92 o92 := (sA.mono fun _ h _ => .inl h).trans (s92.mono fun _ h _ => .inr h)
      have sW : Step (fun j => j = k) w o w92 o92 := (s35.trans sA).trans' s92 fun i hi => .inr (by rw [hi]; exact gp2.1)
      have L92 : WRow N w92 o92 i6a i6c l := LRow.step L35 sB fun j hj => .inl (by rcases hj with h | h <;> omega)
      have hB2 : beginK S s ((ln : Nat) : Int) = (⟨3, 0, 0, 0, (wrapsL S1 key nl).2, (sealOf (wrapsL S1 key nl).1 key (boundE (s.ep + 1)) (boxL ln 0)).1.1⟩, key, (sealOf (wrapsL S1 key nl).1 key (boundE (s.ep + 1)) (boxL ln 0)).2) := by rw [hB, if_pos hep]; rfl
      rw [hB2]
      have hlw : l.length = (wrapsL S1 key nl).2.length := by rw [← hlm, List.length_map]
      refine ⟨only k w o o92, i6a, i6c, za, zc, l, by rw [hlw]; rfl, Q26 sW k, (P85.step s92 (show ¬ k = p2 by omega)).only sW, ⟨Q2t L92 sW (by omega) (by omega), hlm, fun x hx => ?_, Q1A (zr.step s92) sW k, ?_, by omega⟩, L92.le, hzc⟩
      · obtain ⟨y1, y2⟩ := hlb x hx
        exact ⟨Q1A (y1.step sB) sW k, y2⟩
      · show (sealOf (wrapsL S1 key nl).1 key (boundE (s.ep + 1)) (boxL ln 0)).1.1.length < 1000000
        unfold sealOf
        split
        · split
          · show (0 : Nat) < _; decide
          · show (boxL _ _).length < _
            rw [Q13]
            have := Q1n (classOf (boxL ln 0).length)
            omega
        · show (0 : Nat) < _; decide
    · obtain ⟨o98, s98⟩ := Step.store1 X98 s35.ok (M35 p2 (by simp)).2
      have sW : Step (fun j => j = k) w o w98 o98 := s35.trans' s98 fun i hi => .inr (by rw [hi]; exact gp2.1)
      have L98 : WRow N w98 o98 i6a i6c l := LRow.step L35 s98 fun j hj => .inl (by rw [hj]; omega)
      have hB2 : beginK S s last = (⟨3, 0, 0, 0, (wrapsL S1 key nl).2, []⟩, key, (wrapsL S1 key nl).1) := by rw [hB, if_neg (by omega)]
      rw [hB2]
      have hlw : l.length = (wrapsL S1 key nl).2.length := by rw [← hlm, List.length_map]
      refine ⟨only k w o o98, i6a, i6c, none, 0, l, by rw [hlw]; rfl, Q26 sW k, (P35.step s98 (show ¬ k = p2 by omega)).only sW, ⟨Q2t L98 sW (by omega) (by omega), hlm, fun x hx => ?_, Row.nil _ _ _, by show (0 : Nat) < _; decide, by omega⟩, L98.le, Nat.le_refl _⟩
      obtain ⟨y1, y2⟩ := hlb x hx
      exact ⟨Q1A (y1.step s98) sW k, y2⟩
end
open W (OwnB GivesW)
section
variable {w0 w w' w1 : World} {o0 o o' o1 : Own} {q k j p n m : Nat} {K : Nat → Prop} {S : OS} {b x : List UInt8} {a ba pa xa : Option Addr} {c bc pc xc : Nat} {d : List Int} {L : List RRow}
theorem keyInv (h : OInv S) : OInv (keyOf S).2 := by
  obtain ⟨f1, f2, f3, f4, f5⟩ := Q1F h
  exact ⟨f1.ok, f1.rng, f1.hu, f1.hi, f1.sg, f1.gs, f1.su, f1.pu, f1.ps, f1.eu⟩
theorem sealInv (h : OInv S) (key : Int) (b p : List UInt8) : OInv (sealOf S key b p).2 := by
  obtain ⟨f1, _⟩ := Q1F h
  unfold sealOf
  split
  · split
    · exact h
    · exact ⟨f1.ok, f1.rng, f1.hu, f1.hi, f1.sg, f1.gs, f1.su, f1.pu, f1.ps, f1.eu⟩
  · exact h
theorem wrapInv (h : OInv S) (p key : Int) : OInv (wrapOf S p key).2 := by
  obtain ⟨f1, _⟩ := Q1F h
  unfold wrapOf
  split
  · split
    · exact ⟨f1.ok, f1.rng, f1.hu, f1.hi, f1.sg, f1.gs, f1.su, f1.pu, f1.ps, f1.eu⟩
    · exact h
  · exact h
theorem Q6B (h : RFine n d L) (key : Int) {b p : List UInt8} (hb : b.length < 1000000) (hp : p.length < 1000000) : RFine (n + 1) (sealR d L key b p).2.1 (sealR d L key b p).2.2 := by
  unfold sealR
  split
  · exact h.more
  · split
    · exact h.more
    · exact h.put _ ⟨hb, hp⟩
theorem Q6C (h : RFine n d L) (p key : Int) : RFine (n + 1) (wrapR d L p key).2.1 (wrapR d L p key).2.2 := by
  unfold wrapR
  split
  · exact h.more
  · split
    · exact h.more
    · exact h.put _ ⟨by show (0 : Nat) < _; decide, by show (0 : Nat) < _; decide⟩
theorem Rof.key (h : Rof w o j S n) (hn : n + 1 < 1000000) :
    Calls Try.prog 44 #[.pointer (some (blk j))] w (Gs (fun i => i = j) w o (u64V (keyOf S).1) fun w' o' => Rof w' o' j (keyOf S).2 (n + 1)) := by
  obtain ⟨d, R, h1, h2, h3⟩ := h.ex
  obtain ⟨e1, e2⟩ := key_sim h2
  refine (Q63 h1 (h3.rok h.ok (by omega))).mono fun x w' ⟨o', he, s, r⟩ => ⟨o', by rw [he, e1]; rfl, s, ⟨_, _, r, e2, h3.put _ (by decide)⟩, s.ok, keyInv h.inv⟩
theorem Rof.sealK (h : Rof w o j S n) (hn : n + 1 < 1000000) (key : Int) (hb : Row w o ba (bytesV b)) (hbc : b.length ≤ bc) (hp : Row w o pa (bytesV x)) (hpc : x.length ≤ pc) (hbl : b.length < 1000000) (hpl : x.length < 1000000) :
    Calls Try.prog 47 #[.pointer (some (blk j)), .int .u64 key, .slice ba b.length bc, .slice pa x.length pc] w (Gb (fun i => i = j) w o (sealOf S key b x).1 fun w' o' => Rof w' o' j (sealOf S key b x).2 (n + 1)) := by
  obtain ⟨d, R, h1, h2, h3⟩ := h.ex
  obtain ⟨e1, e2⟩ := Q6M h2 key b x
  refine (Q5x h1 (h3.rok h.ok (by omega)) key hb hbc hp hpc).mono fun y w' ⟨o', a', c', he, s, hr, hc, r⟩ => ⟨o', a', c', by rw [he, e1], s, by rw [← e1]; exact hr, by rw [← e1]; exact hc, ⟨_, _, r, e2, Q6B h3 key hbl hpl⟩, s.ok, sealInv h.inv key b x⟩
theorem Rof.wrap (h : Rof w o j S n) (hn : n + 1 < 1000000) (p key : Int) :
    Calls Try.prog 46 #[.pointer (some (blk j)), .int .u64 p, .int .u64 key] w (Gb (fun i => i = j) w o (wrapOf S p key).1 fun w' o' => Rof w' o' j (wrapOf S p key).2 (n + 1)) := by
  obtain ⟨d, R, h1, h2, h3⟩ := h.ex
  obtain ⟨e1, e2⟩ := Q6F h2 p key
  refine (Q5t h1 (h3.rok h.ok (by omega)) p key).mono fun y w' ⟨o', a', c', he, s, hr, hc, r⟩ => ⟨o', a', c', by rw [he, e1], s, by rw [← e1]; exact hr, by rw [← e1]; exact hc, ⟨_, _, r, e2, Q6C h3 p key⟩, s.ok, wrapInv h.inv p key⟩
theorem Rof.unwrap (h : Rof w o j S n) (hn : n < 1000000) (s : Int) (hx : RowAt w xa (bytesV x)) (hxl : x.length < 1000000) :
    Calls Try.prog 62 #[.pointer (some (blk j)), .int .u64 s, .slice xa x.length xc] w (Ret (.tuple #[.int .u64 (Q11 S s x).1, .int .i64 (Q11 S s x).2]) fun w' => Ext no w w') := by
  obtain ⟨d, R, h1, h2, h3⟩ := h.ex
  have := Q4q (xc := xc) h1 (h3.rok h.ok (by omega)) s hx hxl
  rw [Q5J h2] at this
  exact this
theorem Rof.only (h : Rof w o j S n) (s : Step K w0 o0 w o) : Rof w (only j w0 o0 o) j S n := by
  obtain ⟨d, L, ⟨R, e, hR⟩, h2, h3⟩ := h.ex
  refine ⟨⟨d, L, ⟨R, e, ⟨only_k s hR.tk, ?_, fun x hx => ?_⟩⟩, h2, h3⟩, (Q26 s j).ok, h.inv⟩
  · obtain ⟨da, dc, la, lc, hb, hd, hda, hg, hne⟩ := hR.at_
    exact ⟨da, dc, la, lc, hb, hd, Q1A hda s j, ⟨hg.own, fun ad ha => ⟨only_k s (hg.tg ad ha).1, (hg.tg ad ha).2⟩⟩, hne⟩
  · obtain ⟨x1, x2, x3⟩ := hR.rows x hx
    exact ⟨Q1A x1 s j, Q1A x2 s j, x3⟩
theorem Q4a {h : Nat} (hh : h < 18446744073709551616) (w : World) :
    Calls Try.prog 49 #[.int .u64 h] w (fun e w' => ∃ a' c', e = .returned (.slice a' (boxL h 0).length c') ∧ OwnB w.heap.size w' a' c' (boxL h 0) ∧ Ext no w w') := by
  refine (Q0K.go _ (R := fun v w' => ∃ a' c', v = .slice a' (boxL h 0).length c' ∧ OwnB w.heap.size w' a' c' (boxL h 0) ∧ Ext no w w') ?_).mono fun e w' ⟨v, he, a', c', hv, hw⟩ => ⟨a', c', by rw [he, hv], hw⟩
  unfold Q0K.N
  refine ⟨fun q vs w1 => ∃ (t : Nat) (a : Option Addr) (c : Nat), vs = [.int .u64 ((h / 256 ^ t : Nat) : Int), .slice a (tailB h t).length c, .int .i64 t] ∧ q + t = 8 ∧ OwnB w.heap.size w1 a c (tailB h t) ∧ Ext no w w1, 8, ⟨0, none, 0, by simp [tailB], rfl, OwnB.nil _ _, Ext.refl _ _⟩, ?_⟩
  rintro q w1 n ba bn bc i ⟨t, a, c, hi, hq, hO, X1⟩
  simp only [List.cons.injEq, Value.int.injEq, Value.slice.injEq, true_and, and_true] at hi
  obtain ⟨rfl, ⟨rfl, rfl, rfl⟩, rfl⟩ := hi
  refine ⟨fun ht w9 q10 X9 hb hq10 hq10' => ?_, fun ht => ?_⟩
  · have ht : t < 8 := by omega
    have hp : 256 ^ t = 2 ^ (8 * t) := by rw [Nat.pow_mul]
    have hlt : h / 256 ^ t < 18446744073709551616 := Nat.lt_of_le_of_lt (Nat.div_le_self _ _) hh
    have hb' : Blk w9 q10 5 (bytesV [byteAt h (7 - t)]) := by
      have e : IntKind.u8.wrap (Int.tmod ((h / 256 ^ t : Nat) : Int) 256) = ((byteAt h (7 - t)).toNat : Int) := by
        rw [Q1z, show 56 - 8 * (7 - t) = 8 * t by omega, ← hp, show Int.tmod ((h / 256 ^ t : Nat) : Int) 256 = ((h / 256 ^ t % 256 : Nat) : Int) from rfl]
        exact wu8 (by omega) (by omega)
      rw [e] at hb
      exact hb
    have l1 := X1.size
    have hO9 : OwnB w.heap.size w9 (some (blk q10)) 1 [byteAt h (7 - t)] := ⟨Q1r hb' rfl (by show (1 : Nat) ≤ maxLen; unfold maxLen; decide), fun ad ha => by cases ha; exact ⟨by show _ ≤ q10; omega, hq10'⟩⟩
    obtain ⟨a', c', w12, hr, hO', hx⟩ := hO9.append (t := 25) (ty := 25) Try.underlying25 (Nat.le_trans l1 X9.size) (xc := bc) (xs := tailB h t) (hO.no X9).row (by simp [tailB]; omega)
    rw [show [byteAt h (7 - t)] ++ tailB h t = tailB h (t + 1) from (Q3V ht).symm] at hr hO'
    refine ⟨a', _, c', w12, hr, by omega, by omega, q - 1, by omega, t + 1, a', c', ?_, by omega, hO', (X1.trans X9).then hx fun b hb => .inr hb⟩
    have e : IntKind.u64.wrap (Int.tdiv ((h / 256 ^ t : Nat) : Int) 256) = ((h / 256 ^ (t + 1) : Nat) : Int) := by
      rw [show Int.tdiv ((h / 256 ^ t : Nat) : Int) 256 = ((h / 256 ^ t / 256 : Nat) : Int) from rfl, Nat.div_div_eq_div_mul, ← Nat.pow_succ]
      exact wu64 (Int.natCast_nonneg _) (by have := Nat.div_le_self h (256 ^ t.succ); omega)
    rw [e]
    rfl
  · obtain rfl : t = 8 := by omega
    have e : tailB h 8 = boxL h 0 := rfl
    rw [e] at hO ⊢
    exact ⟨ba, bc, rfl, hO, X1⟩
abbrev RWRow (N : Nat) (w : World) (o : Own) (a : Option Addr) (c : Nat) (l : List Wr) : Prop := LRow 119 2 N w o a l.length c (l.flatMap Wr.C)
theorem inf119 : (Try.prog.info? 119).map (fun i => (i.zero, i.size, i.bytes)) = some (some (.agg #[.int .i64 0, .slice none 0 0]), 2, 32) := by kernel_rfl
theorem RWRow.push {N : Nat} {l : List Wr} (h : RWRow N w o a c l) (ok : Tags w o) (hl : l.length < 1000000) (x : Wr) {q : Nat} (hb : Blk w q 119 x.C) (hq : N ≤ q) (hq' : q < w.heap.size) :
    ∃ a' n' c' w' o', (Builtin.append_ #[75, 75] 75 #[.slice a l.length c, .slice (some (blk q)) 1 1]).run Try.prog w = .ok (.slice a' n' c') w' ∧ n' = (l ++ [x]).length ∧ Step (fun j => N ≤ j) w o w' o' ∧ RWRow N w' o' a' c' (l ++ [x]) ∧ Ext (fun b => ∃ ad, a = some ad ∧ b = ad.block) w w' := by
  obtain ⟨i, hi, hz, hsz, hby⟩ := info_of inf119
  obtain ⟨a', c', w', o', hrun, s2, hrow, hX⟩ := LRow.push (ty := 75) Try.underlying75 hi hz hsz hby rfl (by decide) h ok hq hq' (xa := some (blk q)) (m := 1) (xc := 1) (news := x.C) rfl (RowAt.of_blk hb) (fun u hu => by
    simp [Wr.C] at hu
    rcases hu with rfl | rfl <;> rfl) (by omega) (by omega)
  refine ⟨a', _, c', w', o', hrun, by simp, s2, ?_, hX⟩
  unfold RWRow
  rw [List.length_append, List.flatMap_append]
  simpa using hrow
end
section
variable {w w' w1 : World} {o o' o1 : Own} {q k p N m j n : Nat} {K : Nat → Prop} {S : OS} {s : MS} {a : Option Addr} {c : Nat}
theorem Q4S (hP : Rof w o j S n) (hS : S.ok) (hlen : n + 20 < 1000000) (hr : Row w o a (s.ml.flatMap Mem.C)) (hs : s.ok) {last : Int} (hl0 : 0 ≤ last) (hl1 : last < 18446744073709551616)
    (hpub : ∀ m ∈ nowM s.ml, (alook S.publics m.pub).isSome) (hne : nowM s.ml ≠ []) :
    Calls Try.prog 22 #[.pointer (some (blk j)), .agg #[.slice a s.ml.length c, .int .i64 s.ep], .int .u64 last] w (fun x w' => ∃ o' wa wc oa oc, ∃ l : List Wr, x = .returned (.tuple #[chgV (beginK S s last).1 wa wc oa oc, .int .u64 (beginK S s last).2.1, .int .i64 0]) ∧ Step (fun i => i = j) w o w' o' ∧ Rof w' o' j (beginK S s last).2.2 (n + 10) ∧ CH w' o' (beginK S s last).1 wa wc l oa oc ∧ l.length ≤ wc ∧ (beginK S s last).1.old.length ≤ oc) := by
  refine (Q0q.go _ _ _ _ _ _ (R := fun v w' => ∃ o' wa wc oa oc, ∃ l : List Wr, v = (.tuple #[chgV (beginK S s last).1 wa wc oa oc, .int .u64 (beginK S s last).2.1, .int .i64 0]) ∧ Step (fun i => i = j) w o w' o' ∧ Rof w' o' j (beginK S s last).2.2 (n + 10) ∧ CH w' o' (beginK S s last).1 wa wc l oa oc ∧ l.length ≤ wc ∧ (beginK S s last).1.old.length ≤ oc) ?_).mono fun x w' ⟨v, he, o', wa, wc, oa, oc, l, hv, hw⟩ => ⟨o', wa, wc, oa, oc, l, by rw [he, hv], hw⟩
  unfold Q0q.N
  have ok := hP.ok
  have hkl := hP.lt
  have hul := hP.len
  have hml := hs.le
  have hnl : (nowM s.ml).length ≤ 8 := Nat.le_trans (List.length_filter_le _ _) hml
  intro w6 p1 p2 X6 P6
  obtain ⟨s6, M6⟩ := Step.priv X6 P6 ok
  have g6 : ∀ p ∈ [p1, p2], w.heap.size ≤ p ∧ p < w6.heap.size := P6
  have gp1 := g6 p1 (by simp)
  have gp2 := g6 p2 (by simp)
  have kM : ∀ p ∈ [p1, p2], ¬ p = j := fun p hp => by have := (g6 p hp).1; omega
  refine Calls.mono ((hP.step s6 id).key (by omega)) fun u w11 ⟨o11, he, s11', P11⟩ => ⟨_, he, M6.keep s11' kM, fun w18 p3 X18 P18 => ?_⟩
  have M11 := M6.step s11'
  have s11 : Step (fun i => i = j) w o w11 o11 := s6.none.trans s11'
  obtain ⟨s18', M18⟩ := Step.priv X18 P18 s11.ok
  have g3 := P18 p3 (by simp)
  have l6 := X6.size
  have l11 := s11'.size
  have l18 := X18.size
  have s18 := s11.trans s18'.none
  have M3 : Mine [p1, p2, p3] w18 (tags w11 o11 [p3]) := fun y hy => by
    rcases List.mem_cons.1 hy with rfl | hy
    · exact (M11.step s18') _ (by simp)
    · rcases List.mem_cons.1 hy with rfl | hy
      · exact (M11.step s18') _ (by simp)
      · exact M18 _ hy
  have P18' := P11.step s18' id
  have r18 := hr.step s18
  refine Calls.mono (Q4u r18 s18.ok (by omega) s.ep) fun u w22 ⟨o22, na, nc, he, s22', r22, hnc⟩ => ⟨_, _, _, he, M3.keep s22' (fun _ _ h => h), ?_⟩
  have s22 := s18.trans s22'.none
  have M22 := M3.step s22'
  have P22 := P18'.step s22' id
  have l22 := s22'.size
  obtain ⟨key, hkey⟩ : ∃ key, (keyOf S).1 = key := ⟨_, rfl⟩
  obtain ⟨S1, hS1⟩ : ∃ S1, (keyOf S).2 = S1 := ⟨_, rfl⟩
  have ok1 := Q4g hS
  have kf := Q3g S
  have kin := key_in S
  rw [hS1] at ok1 P22 kf kin
  rw [hkey] at kin
  obtain ⟨nl, hnow⟩ : ∃ nl, nowM s.ml = nl := ⟨_, rfl⟩
  have hB : beginK S s last = if 0 ≤ s.ep then (⟨3, 0, 0, 0, (wrapsL S1 key nl).2, (sealOf (wrapsL S1 key nl).1 key (boundE (s.ep + 1)) (boxL last.toNat 0)).1.1⟩, key, (sealOf (wrapsL S1 key nl).1 key (boundE (s.ep + 1)) (boxL last.toNat 0)).2)
      else (⟨3, 0, 0, 0, (wrapsL S1 key nl).2, []⟩, key, (wrapsL S1 key nl).1) := by
    unfold beginK
    rw [hS1, hkey, hnow]
  rw [hnow] at r22 hnc hnl hpub hne
  have hll0 : 0 < nl.length := by
    cases nl with
    | nil => exact absurd rfl hne
    | cons _ _ => simp
  rw [hnow, hkey]
  obtain ⟨N, hN⟩ : ∃ N, w18.heap.size = N := ⟨_, rfl⟩
  refine ⟨fun h0 => absurd h0 (by omega), fun _ => ?_⟩
  refine ⟨fun m vs w1 => ∃ (t : Nat) (o1 : Own) (a1 : Option Addr) (c1 : Nat) (l : List Wr), vs = [.int .i64 t, .int .i64 0, .int .i64 0, .int .u64 0, .int .i64 0, .slice none 0 0, .slice none 0 0, .int .i64 3, .int .i64 0, .int .u64 0, .int .i64 0, .slice a1 l.length c1, .slice none 0 0] ∧ m + t = nl.length ∧ Step (fun i => i = j) w o w1 o1 ∧ Rof w1 o1 j (wrapsL S1 key (nl.take t)).1 (n + 1 + t) ∧ Mine [p1, p2, p3] w1 o1 ∧ Row w1 o1 na (nl.flatMap Mem.C) ∧ RWRow N w1 o1 a1 c1 l ∧ l.map Wr.p = (wrapsL S1 key (nl.take t)).2 ∧ (∀ x ∈ l, Row w1 o1 x.a (bytesV x.b) ∧ x.b.length ≤ x.c ∧ x.b.length < 1000000) ∧ N ≤ w1.heap.size,
    nl.length, ⟨0, o22, none, 0, [], rfl, rfl, s22, P22, M22, r22, LRow.nil _ _ _ _ _, rfl, fun x hx => (by cases hx), by omega⟩, ?_⟩
  intro m w35 i0 i1 i2 i3 i4 i5a i5n i5c i6a i6n i6c i7 i8 i9 i10 i11a i11n i11c i12a i12n i12c hI
  obtain ⟨t, o35, a1, c1, l, hi, hm, s35, P35, M35, r35, L35, hlm, hlb, hNs⟩ := hI
  simp only [List.cons.injEq, Value.slice.injEq, Value.int.injEq, true_and, and_true] at hi
  obtain ⟨rfl, rfl, rfl, rfl, rfl, ⟨rfl, rfl, rfl⟩, ⟨rfl, rfl, rfl⟩, rfl, rfl, rfl, rfl, ⟨rfl, rfl, rfl⟩, ⟨rfl, rfl, rfl⟩⟩ := hi
  have fr := Q1L key (nl.take t) S1 ok1.1
  have htl0 : (nl.take t).length ≤ 8 := by rw [List.length_take]; omega
  have hll : l.length = (nl.take t).length := by have := congrArg List.length hlm; rw [List.length_map] at this; rw [this]; exact fr.2.2.2.2.2.2
  refine ⟨fun ht => ?_, fun ht => ?_⟩
  · have htl : t < nl.length := by omega
    have hg : nl[t]? = some nl[t] := List.getElem?_eq_getElem htl
    have hmem := List.getElem_mem htl
    have htk : nl.take (t + 1) = nl.take t ++ [nl[t]] := by rw [List.take_add_one, hg]; rfl
    generalize nl[t] = x at *
    have hr1 := r35.1
    obtain ⟨ad, rfl⟩ := hr1.faddr Mem.len (by decide) htl
    have hxp : (alook (wrapsL S1 key (nl.take t)).1.publics x.pub).isSome := by rw [fr.1, kf.1]; exact hpub x hmem
    have hxk : key ∈ (wrapsL S1 key (nl.take t)).1.keys := by rw [fr.2.1]; exact kin
    have hwk := Q3b hxp hxk
    refine ⟨ad, rfl, by omega, by omega, x.pub, by rw [Int.toNat_natCast]; exact hr1.fcell Mem.len hg 1 rfl, ?_⟩
    have hM : ∀ y ∈ [p1, p2, p3], ¬ y = j := fun y hy => by
      rcases List.mem_cons.1 hy with rfl | hy
      · omega
      · rcases List.mem_cons.1 hy with rfl | hy
        · omega
        · rw [List.mem_singleton.1 hy]; omega
    refine Calls.mono (P35.wrap (by omega) x.pub key) fun u w54 ⟨o54, xa, xc, he, s54, xr, hxc, P54⟩ => ⟨_, _, _, _, he, M35.keep s54 hM, fun hne' => absurd (by rw [hwk]) hne', fun _ => ⟨by omega, by omega, x.who, ?_, fun w62 q63 X62 b62 hq62 hq62' => ?_⟩⟩
    · rw [Int.toNat_natCast]; exact (r35.step s54).1.fcell Mem.len hg 0 rfl
    have t62 := Step.of_no X62 s54.ok
    have s62 := s54.trans t62.none
    have L62 : RWRow N w62 _ i11a i11c l := LRow.step L35 s62 fun j' hj => .inl (by rw [hj]; omega)
    have l54 := s54.size
    obtain ⟨a2, n2, c2, w65, o65, hrun, hn2, s65, L65, X65⟩ := L62.push s62.ok (by omega) ⟨x.who, xa, xc, (wrapOf (wrapsL S1 key (nl.take t)).1 x.pub key).1.1⟩ b62 (by omega) hq62'
    subst hn2
    have M62 := (M35.step s54).step t62
    have hMN : ∀ y ∈ [p1, p2, p3], ¬ N ≤ y := fun y hy => by
      rcases List.mem_cons.1 hy with rfl | hy
      · omega
      · rcases List.mem_cons.1 hy with rfl | hy
        · omega
        · rw [List.mem_singleton.1 hy]; omega
    refine ⟨a2, _, c2, w65, hrun, M62.keep s65 hMN, by omega, by omega, fun w66 X66 => ?_⟩
    have M65 := M62.step s65
    obtain ⟨o66, s66⟩ := Step.store1 X66 s65.ok (M65 p3 (by simp)).2
    have hall : Step (fun i => i = j) w o w66 o66 := ((s35.trans s62).trans' s65 fun i hi => .inr (by omega)).trans' s66 fun i hi => .inr (by rw [hi]; omega)
    have L66 : RWRow N w66 o66 a2 c2 (l ++ [⟨x.who, xa, xc, (wrapOf (wrapsL S1 key (nl.take t)).1 x.pub key).1.1⟩]) := LRow.step L65 s66 fun j' hj => .inl (by rw [hj]; omega)
    have hsn := Q2p key x (nl.take t) S1
    refine ⟨m - 1, by omega, t + 1, o66, a2, c2, _, rfl, by omega, hall, ?_, M65.step s66, ((r35.step s62).step s65).step s66, L66, ?_, fun y hy => ?_, by have := X62.size; have := X65.size; have := X66.size; omega⟩
    · rw [htk, hsn]
      exact ((P54.step t62 id).step s65 (show ¬ N ≤ j by omega)).step s66 (show ¬ j = p3 by omega)
    · rw [htk, hsn, List.map_append, hlm]; rfl
    · rcases List.mem_append.1 hy with hy | hy
      · obtain ⟨y1, y2⟩ := hlb y hy
        exact ⟨((y1.step s62).step s65).step s66, y2⟩
      · rw [List.mem_singleton.1 hy]
        exact ⟨((xr.step t62).step s65).step s66, hxc, by rw [hwk, Q13]; decide⟩
  · have htt : t = nl.length := by omega
    subst htt
    rw [List.take_of_length_le (Nat.le_refl _)] at hlm P35 fr hll
    have hlw : l.length = (wrapsL S1 key nl).2.length := by rw [← hlm, List.length_map]
    refine ⟨fun hep => ?_, fun hep w98 X98 => ?_⟩
    · have hep0 : 0 ≤ s.ep := by have := hs.ep0; omega
      have he1 := hs.ep1
      refine ⟨by omega, by omega, ?_⟩
      have hwe : IntKind.u64.wrap (s.ep + 1) = (((s.ep + 1).toNat : Nat) : Int) := by rw [wu64 (by omega) (by omega)]; omega
      rw [hwe]
      refine (W.rNum_spec (s.ep + 1).toNat w35 (by omega)).mono fun u w78 ⟨ba, bc, he, hO, X78⟩ => ⟨_, _, _, he, ?_⟩
      have hO : OwnB w35.heap.size w78 ba bc (boundE (s.ep + 1)) := hO
      have t78 := Step.of_no X78 s35.ok
      have Mp2 : Mine [p2, p3] w35 o35 := M35.sub fun p hp => by
        rcases List.mem_cons.1 hp with rfl | hp
        · simp
        · rw [List.mem_singleton.1 hp]; simp
      refine ⟨Mp2.keep t78 (fun _ _ h => h), ?_⟩
      obtain ⟨ln, rfl⟩ := Int.eq_ofNat_of_zero_le hl0
      refine (Q4a (h := ln) (by omega) w78).mono fun u w81 ⟨ea, ec, he, hE, X81⟩ => ⟨_, _, _, he, ?_⟩
      have t81 := Step.of_no X81 t78.ok
      refine ⟨(Mp2.step t78).keep t81 (fun _ _ h => h), ?_⟩
      have t7881 := t78.trans t81
      have rb : Row w81 _ ba (bytesV (boundE (s.ep + 1))) := (Q1B hO X78 : Row w78 (grow w35 o35) ba _).step t81
      have re : Row w81 _ ea (bytesV (boxL ln 0)) := (Q1B hE X81 : Row w81 (grow w78 (grow w35 o35)) ea _)
      have hbl := Q4B (s.ep + 1)
      have hse := (P35.step t7881 id).sealK (by omega) key (bc := bc) (pc := ec) rb (hO.le) re (hE.le) (by omega) (by rw [Q13]; decide)
      have hm85 : ∀ y ∈ [p2, p3], ¬ y = j := fun y hy => by
        rcases List.mem_cons.1 hy with rfl | hy
        · omega
        · rw [List.mem_singleton.1 hy]; omega
      refine Calls.mono hse fun u w85 ⟨o85, za, zc, he, s85, zr, hzc, P85⟩ => ⟨_, _, _, _, he, ((Mp2.step t78).step t81).keep s85 hm85, fun w92 X92 => ?_⟩
      have M85 := ((Mp2.step t78).step t81).step s85
      obtain ⟨o92, s92⟩ := Step.store2 X92 s85.ok (M85 p2 (by simp)).2 (M85 p3 (by simp)).2
      have sA := t7881.none.trans s85
      have sB : Step (fun i => i = j ∨ i = p2 ∨ i = p3) w35 o35 w92 o92 := (sA.mono fun _ h _ => .inl h).trans (s92.mono fun _ h _ => .inr h)
      have sW : Step (fun i => i = j) w o w92 o92 := (s35.trans sA).trans' s92 fun i hi => .inr (by rcases hi with h | h <;> omega)
      have L92 : RWRow N w92 o92 i11a i11c l := LRow.step L35 sB fun j' hj => .inl (by rcases hj with h | h | h <;> omega)
      have hB2 : beginK S s ((ln : Nat) : Int) = (⟨3, 0, 0, 0, (wrapsL S1 key nl).2, (sealOf (wrapsL S1 key nl).1 key (boundE (s.ep + 1)) (boxL ln 0)).1.1⟩, key, (sealOf (wrapsL S1 key nl).1 key (boundE (s.ep + 1)) (boxL ln 0)).2) := by rw [hB, if_pos hep0]; rfl
      rw [hB2]
      refine ⟨only j w o o92, i11a, i11c, za, zc, l, by rw [hlw]; rfl, Q26 sW j, ((P85.mono (by omega)).step s92 (show ¬ (j = p2 ∨ j = p3) by omega)).only sW, ⟨Q2t L92 sW (by omega) (by omega), hlm, fun x hx => ?_, Q1A (zr.step s92) sW j, ?_, by omega⟩, L92.le, hzc⟩
      · obtain ⟨y1, y2⟩ := hlb x hx
        exact ⟨Q1A (y1.step sB) sW j, y2⟩
      · show (sealOf (wrapsL S1 key nl).1 key (boundE (s.ep + 1)) (boxL ln 0)).1.1.length < 1000000
        unfold sealOf
        split
        · split
          · show (0 : Nat) < _; decide
          · show (boxL _ _).length < _
            rw [Q13]
            have := Q1n (classOf (boxL ln 0).length)
            omega
        · show (0 : Nat) < _; decide
    · have hep0 : ¬ 0 ≤ s.ep := by omega
      obtain ⟨o98, s98⟩ := Step.store1 X98 s35.ok (M35 p2 (by simp)).2
      have sW : Step (fun i => i = j) w o w98 o98 := s35.trans' s98 fun i hi => .inr (by rw [hi]; exact gp2.1)
      have L98 : RWRow N w98 o98 i11a i11c l := LRow.step L35 s98 fun j' hj => .inl (by rw [hj]; omega)
      have hB2 : beginK S s last = (⟨3, 0, 0, 0, (wrapsL S1 key nl).2, []⟩, key, (wrapsL S1 key nl).1) := by rw [hB, if_neg hep0]
      rw [hB2]
      refine ⟨only j w o o98, i11a, i11c, none, 0, l, by rw [hlw]; rfl, Q26 sW j, ((P35.mono (by omega)).step s98 (show ¬ j = p2 by omega)).only sW, ⟨Q2t L98 sW (by omega) (by omega), hlm, fun x hx => ?_, Row.nil _ _ _, by show (0 : Nat) < _; decide, by omega⟩, L98.le, Nat.le_refl _⟩
      obtain ⟨y1, y2⟩ := hlb x hx
      exact ⟨Q1A (y1.step s98) sW j, y2⟩
end
open W (OwnB GivesW)
def Rng.W (R : Rng) (ka : Option Addr) (kc : Nat) (oa : Option Addr) (oc : Nat) : List Value := [.int .i64 R.who, .int .u64 R.secret, .slice ka R.keys.length kc, .slice oa R.olds.length oc]
structure MG (w : World) (o : Own) (q : Nat) (R : Rng) : Prop where
  mem : ∃ ka kc oa oc, ∃ ol : List BS, Blk w q 61 (R.W ka kc oa oc) ∧ KRw w o q ka kc R.keys ∧ ORw w o q oa oc ol ∧ ol.map BS.bs = R.olds ∧ ∀ x ∈ ol, BSk w o x
  tg : o q = some q
section
variable {w w' w1 : World} {o o' o1 : Own} {q k p N m : Nat} {K : Nat → Prop} {R : Rng} {b : List UInt8} {a : Option Addr} {c : Nat}
theorem MG.lt (h : MG w o q R) : q < w.heap.size := by
  obtain ⟨ka, kc, oa, oc, ol, hb, _⟩ := h.mem
  exact hb.lt
theorem MG.step (h : MG w o q R) (s : Step K w o w' o') (hk : ¬ K q) : MG w' o' q R := by
  obtain ⟨⟨ka, kc, oa, oc, ol, hb, hk1, ho, hm, hx⟩, tg⟩ := h
  exact ⟨⟨ka, kc, oa, oc, ol, s.blk hb tg hk, hk1.step s hk, ho.step s hk, hm, fun x h => (hx x h).step s⟩, by rw [s.own hb.lt]; exact tg⟩
theorem MG.pushKey (h : MG w o q R) (ok : Tags w o) (hl : R.keys.length < 1000000) (x : Int) {qb : Nat} (hb : Blk w qb 36 [.int .u64 x]) {ka : Option Addr} {n kc : Nat} (hc : w.cell? ((blk q).add 2) = some (.slice ka n kc)) :
    ∃ a' n' c' w' o', (Builtin.append_ #[22, 22] 22 #[.slice ka n kc, .slice (some (blk qb)) 1 1]).run Try.prog w = .ok (.slice a' n' c') w' ∧ Step (fun j => j = q) w o w' o' ∧
      Q0d w' ((blk q).add 2) ∧ ∀ w2, w2 = w'.setCell ((blk q).add 2) (.slice a' n' c') → Step (fun j => j = q) w o w2 (grow w' o') ∧ MG w2 (grow w' o') q { R with keys := R.keys ++ [x] } := by
  obtain ⟨⟨ka', kc', oa, oc, ol, hbk, hk1, ho, hm, hx⟩, tg⟩ := h
  have hc2 := hbk.cella (i := 2) (v := .slice ka' R.keys.length kc') rfl
  rw [hc] at hc2
  cases hc2
  obtain ⟨i, hi, hz, hsz, hby⟩ := info_of inf36
  obtain ⟨a', c', w', o', hrun, s2, hk2, hk, _⟩ := Grows.push (ty := 22) Try.underlying22 hi hz hsz hby rfl (by decide) hk1 ok hbk.lt (xa := some (blk qb)) (m := 1) (xc := 1) (news := [x].map u64V) rfl (RowAt.of_blk hb) Q5a (by omega) (by omega)
  have X2 : Ext (fun b => ∃ ad, ka = some ad ∧ b = ad.block) w w' := ⟨s2.ext.os, s2.ext.tape, s2.ext.output, s2.ext.size, fun b hb hn => hk b hb fun ad ha hb' => hn ⟨ad, ha, hb'⟩⟩
  have hb2 : Blk w' q 61 _ := hbk.ext X2 fun ⟨ad, h1, h2⟩ => hk1.ne hbk (by decide) ad h1 h2.symm
  have ho2 : ORw w' o' q oa oc ol := ho.keep X2 (fun ad ha ⟨ad', h1, h2⟩ => ho.apart hk1 (by decide) ad ad' ha h1 h2) fun b hb => s2.own hb
  have tg2 : o' q = some q := by rw [s2.own hbk.lt]; exact tg
  refine ⟨a', _, c', w', o', hrun, s2, hb2.cana (i := 2) rfl, fun w3 e3 => ?_⟩
  have X3 : Ext (fun b => b = q) w' w3 := (Ext.refl (fun b => b = q) w').x_set (q := q) (i := 2) rfl (.inl rfl) e3
  have b3 := hb2.seti 2 rfl e3
  have hk2' : KRw w' o' q a' c' (R.keys ++ [x]) := by
    unfold KRw
    rw [List.length_append, List.map_append]; exact hk2
  have s3 : Step (fun j => j = q) w' o' w3 (grow w' o') := Step.of_ext X3 s2.ok fun b hb _ => by subst hb; exact tg2
  refine ⟨s2.trans s3, ⟨⟨a', c', oa, oc, ol, ?_, ?_, ?_, hm, fun y hy => ((hx y hy).step s2).step s3⟩, by rw [s3.own hb2.lt]; exact tg2⟩⟩
  · have e : Rng.W { R with keys := R.keys ++ [x] } a' c' oa oc = [.int .i64 R.who, .int .u64 R.secret, .slice a' (R.keys.length + 1) c', .slice oa R.olds.length oc] := by unfold Rng.W; rw [List.length_append]; rfl
    rw [e]; exact b3
  · exact hk2'.keep X3 (hk2'.ne hb2 (by decide)) fun b hb => s3.own hb
  · exact ho2.keep X3 (ho2.ne hb2 (by decide)) fun b hb => s3.own hb
theorem MG.pushOld (h : MG w o q R) (ok : Tags w o) (hl : R.olds.length < 1000000) {x : BS} (hxk : BSk w o x) {qb : Nat} (hb : Blk w qb 25 [x.v]) {ka : Option Addr} {n kc : Nat} (hc : w.cell? ((blk q).add 3) = some (.slice ka n kc)) :
    ∃ a' n' c' w' o', (Builtin.append_ #[59, 59] 59 #[.slice ka n kc, .slice (some (blk qb)) 1 1]).run Try.prog w = .ok (.slice a' n' c') w' ∧ Step (fun j => j = q) w o w' o' ∧
      Q0d w' ((blk q).add 3) ∧ ∀ w2, w2 = w'.setCell ((blk q).add 3) (.slice a' n' c') → Step (fun j => j = q) w o w2 (grow w' o') ∧ MG w2 (grow w' o') q { R with olds := R.olds ++ [x.bs] } := by
  obtain ⟨⟨ka', kc', oa, oc, ol, hbk, hk1, ho, hm, hx⟩, tg⟩ := h
  have hol : ol.length = R.olds.length := by rw [← hm, List.length_map]
  have hc2 := hbk.cella (i := 3) (v := .slice oa R.olds.length oc) rfl
  rw [hc] at hc2
  cases hc2
  obtain ⟨i, hi, hz, hsz, hby⟩ := info_of inf25
  obtain ⟨a', c', w', o', hrun, s2, hk2, hk, _⟩ := Grows.push (ty := 59) Try.underlying59 hi hz hsz hby rfl (by decide) ho ok hbk.lt (xa := some (blk qb)) (m := 1) (xc := 1) (news := [x].map BS.v) rfl (RowAt.of_blk hb) Q5k (by omega) (by omega)
  rw [hol] at hrun
  have X2 : Ext (fun b => ∃ ad, ka = some ad ∧ b = ad.block) w w' := ⟨s2.ext.os, s2.ext.tape, s2.ext.output, s2.ext.size, fun b hb hn => hk b hb fun ad ha hb' => hn ⟨ad, ha, hb'⟩⟩
  have hb2 : Blk w' q 61 _ := hbk.ext X2 fun ⟨ad, h1, h2⟩ => ho.ne hbk (by decide) ad h1 h2.symm
  have hk1' : KRw w' o' q ka' kc' R.keys := hk1.keep X2 (fun ad ha ⟨ad', h1, h2⟩ => hk1.apart ho (by decide) ad ad' ha h1 h2) fun b hb => s2.own hb
  have tg2 : o' q = some q := by rw [s2.own hbk.lt]; exact tg
  refine ⟨a', _, c', w', o', hrun, s2, hb2.cana (i := 3) rfl, fun w3 e3 => ?_⟩
  have X3 : Ext (fun b => b = q) w' w3 := (Ext.refl (fun b => b = q) w').x_set (q := q) (i := 3) rfl (.inl rfl) e3
  have b3 := hb2.seti 3 rfl e3
  have hk2' : ORw w' o' q a' c' (ol ++ [x]) := by
    unfold ORw
    rw [List.length_append, List.map_append]; exact hk2
  have s3 : Step (fun j => j = q) w' o' w3 (grow w' o') := Step.of_ext X3 s2.ok fun b hb _ => by subst hb; exact tg2
  refine ⟨s2.trans s3, ⟨⟨ka', kc', a', c', ol ++ [x], ?_, ?_, ?_, by rw [List.map_append, hm]; rfl, fun y hy => ?_⟩, by rw [s3.own hb2.lt]; exact tg2⟩⟩
  · have e : Rng.W { R with olds := R.olds ++ [x.bs] } ka' kc' a' c' = [.int .i64 R.who, .int .u64 R.secret, .slice ka' R.keys.length kc', .slice a' (R.olds.length + 1) c'] := by unfold Rng.W; rw [List.length_append]; rfl
    rw [e]; exact b3
  · exact hk1'.keep X3 (hk1'.ne hb2 (by decide)) fun b hb => s3.own hb
  · exact hk2'.keep X3 (hk2'.ne hb2 (by decide)) fun b hb => s3.own hb
  · rcases List.mem_append.1 hy with hy | hy
    · exact ((hx y hy).step s2).step s3
    · rw [List.mem_singleton.1 hy]; exact (hxk.step s2).step s3
theorem MG.key (h : MG w o q R) {i : Nat} (hi : i < R.keys.length) : ∃ ka kc ad, w.cell? ((blk q).add 2) = some (.slice ka R.keys.length kc) ∧ ka = some ad ∧ w.cell? (ad.add (i * 1)) = some (.int .u64 (R.keys[i]?.getD 0)) := by
  obtain ⟨⟨ka, kc, oa, oc, ol, hbk, hk1, ho, hm, hx⟩, tg⟩ := h
  have hr := hk1.row
  have hg : (R.keys.map u64V)[i]? = some (u64V (R.keys[i]?.getD 0)) := by rw [List.getElem?_map, List.getElem?_eq_getElem hi]; rfl
  obtain ⟨ad, ha, hc⟩ := hr i _ hg
  exact ⟨ka, kc, ad, hbk.cella (i := 2) rfl, ha, by rw [Nat.mul_one]; exact hc⟩
theorem MG.who (h : MG w o q R) : w.cell? ((blk q).add 0) = some (.int .i64 R.who) := by
  obtain ⟨⟨ka, kc, oa, oc, ol, hbk, _⟩, tg⟩ := h
  exact hbk.cella (i := 0) rfl
theorem MG.secret (h : MG w o q R) : w.cell? ((blk q).add 1) = some (.int .u64 R.secret) := by
  obtain ⟨⟨ka, kc, oa, oc, ol, hbk, _⟩, tg⟩ := h
  exact hbk.cella (i := 1) rfl
theorem MG.keysC (h : MG w o q R) : ∃ ka kc, w.cell? ((blk q).add 2) = some (.slice ka R.keys.length kc) := by
  obtain ⟨⟨ka, kc, oa, oc, ol, hbk, _⟩, tg⟩ := h
  exact ⟨ka, kc, hbk.cella (i := 2) rfl⟩
theorem MG.oldsC (h : MG w o q R) : ∃ ka kc, w.cell? ((blk q).add 3) = some (.slice ka R.olds.length kc) := by
  obtain ⟨⟨ka, kc, oa, oc, ol, hbk, _⟩, tg⟩ := h
  exact ⟨oa, oc, hbk.cella (i := 3) rfl⟩
theorem MG.init {b : Nat} {who secret : Int} (ok : Tags w o) (X : Ext no w w') (hb : Blk w' b 61 [.int .i64 who, .int .u64 secret, .slice none 0 0, .slice none 0 0]) (hq : w.heap.size ≤ b) (hq' : b < w'.heap.size) :
    Step no w o w' (tag (grow w o) b b) ∧ MG w' (tag (grow w o) b b) b ⟨who, secret, [], []⟩ :=
  ⟨(Step.of_no X ok).tag hq hq', ⟨none, 0, none, 0, [], hb, Grows.nil _ _ _ _ _, Grows.nil _ _ _ _ _, rfl, fun x h => (by cases h)⟩, Q1t⟩
end
theorem Q3m : ∀ {l : List (Int × List UInt8)} {last : Int}, boxesGo last l = true → l.Pairwise (fun a b => a.1 < b.1) ∧ (∀ x ∈ l, last < x.1) ∧ ∀ x ∈ l, x.2.length = 16
  | [], last, _ => ⟨List.Pairwise.nil, fun x h => (by cases h), fun x h => (by cases h)⟩
  | x :: r, last, h => by
    simp only [boxesGo, Bool.and_eq_true, decide_eq_true_eq] at h
    obtain ⟨⟨⟨h1, h2⟩, h3⟩, h4⟩ := h
    obtain ⟨g1, g2, g3⟩ := Q3m h4
    refine ⟨List.Pairwise.cons g2 g1, fun y hy => ?_, fun y hy => ?_⟩
    · rcases List.mem_cons.1 hy with rfl | hy
      · exact h2
      · have := g2 y hy; omega
    · rcases List.mem_cons.1 hy with rfl | hy
      · exact h3
      · exact g3 y hy
theorem Q4k {c : Chg} (h : rightM c = true) (hk : c.kd = 3) : boxesGo (-1) c.ws = true := by
  rw [Q2X hk] at h
  simp only [Bool.and_eq_true] at h
  have h1 := h.1
  unfold boxesP at h1
  simp only [Bool.and_eq_true] at h1
  exact h1.1
theorem Q5p (S : OS) (olds : List (List UInt8)) {ks : List Int} (h : ∀ x ∈ ks, x ≠ 0) (x : Int) : backK S olds ks.length (ks ++ [x]) = ks ++ [x] := by
  cases hl : ks.length with
  | zero => rfl
  | succ e =>
    unfold backK
    rw [if_neg]
    intro ht
    have h2 := ht.1.2
    rw [List.getElem?_append_left (by omega), List.getElem?_eq_getElem (by omega)] at h2
    exact h _ (List.getElem_mem _) h2
theorem Q3z {l : List (Int × List UInt8)} (hp : l.Pairwise fun a b => a.1 < b.1) {t : Nat} {x : Int × List UInt8} (hx : l[t]? = some x) : (l.take t).find? (fun p => p.1 == x.1) = none := by
  rw [List.find?_eq_none]
  intro y hy hc
  obtain ⟨i, hi⟩ := List.mem_iff_getElem?.1 hy
  have hit : i < t := by
    have := (List.getElem?_eq_some_iff.1 hi).1
    rw [List.length_take] at this; omega
  rw [List.getElem?_take_of_lt hit] at hi
  obtain ⟨h1, e1⟩ := List.getElem?_eq_some_iff.1 hi
  obtain ⟨h2, e2⟩ := List.getElem?_eq_some_iff.1 hx
  have := List.pairwise_iff_getElem.1 hp i t h1 h2 hit
  rw [e1, e2] at this
  simp only [beq_iff_eq] at hc
  omega
def toldTo (S : OS) (R : Rng) (l : List (Int × List UInt8)) : Int × Int := match l.find? (fun p => p.1 == R.who) with | some p => Q11 S R.secret p.2 | none => (0, 11)
section
variable {w w' w1 : World} {o o' o1 : Own} {q k p N m j n : Nat} {K : Nat → Prop} {R : Rng} {S : OS} {b : List UInt8} {a : Option Addr} {c : Nat} {l : List Wr} {cg : Chg} {wa oa : Option Addr} {wc oc : Nat}
theorem Q4W (h : MG w o q R) (hP : Rof w o j S n) (hn : n < 1000000) (hqj : q ≠ j) (hl : R.keys.length = R.olds.length) (h1 : R.keys.length < 1000) (hnz : ∀ x ∈ R.keys, x ≠ 0) (hC : CH w o cg wa wc l oa oc) (hoc : cg.old.length ≤ oc) :
    Calls Try.prog 26 #[.pointer (some (blk q)), .pointer (some (blk j)), chgV cg wa wc oa oc] w (Ret (.int .i64 (learnK S R cg).2) fun w' => ∃ o', Step (fun i => i = q) w o w' o' ∧ MG w' o' q (learnK S R cg).1) := by
  refine Q0a.run _ _ _ _ _ _ _ _ _ _ _ _ ?_
  unfold Q0a.N
  have ok := hP.ok
  intro w9 pp X9 P9
  obtain ⟨s9, M9⟩ := Step.priv X9 P9 ok
  have hpp := P9 pp (by simp)
  have hql := h.lt
  have hpq : pp ≠ q := by omega
  have hlen : cg.ws.length = l.length := by rw [← hC.m]; simp
  have hln := hC.n
  have bad : ∀ (k2 : Int) (w9 : World) (o9 : Own), learnK S R cg = (R, k2) → Step no w o w9 o9 → Value.int .i64 k2 = .int .i64 (learnK S R cg).2 ∧ ∃ o', Step (fun i => i = q) w o w9 o' ∧ MG w9 o' q (learnK S R cg).1 := fun k2 w9 o9 hK s9 => by
    rw [hK]; exact ⟨rfl, o9, s9.none, h.step s9 id⟩
  have R9 := Q3t (w := w9) (cg := cg) (wa := wa) (oa := oa) (wc := wc) (oc := oc) (hC.step s9).ws.1 hC.m hC.n hC.ol
  refine Calls.mono R9 fun u w13 ⟨he, X13⟩ => ⟨_, he, (M9.keep (Step.of_no X13 s9.ok) fun _ _ h => h), fun hr => ?_, fun hr => ⟨fun hk => ?_, fun hk => ?_⟩⟩
  · exact bad 1 w13 _ (by unfold learnK; rw [if_pos (.inr hr)]) (s9.trans (Step.of_no X13 s9.ok))
  · exact bad 1 w13 _ (by unfold learnK; rw [if_pos (.inl hk)]) (s9.trans (Step.of_no X13 s9.ok))
  have t13 := Step.of_no X13 s9.ok
  have s13 := s9.trans t13
  have M13 := M9.step t13
  have E13 := h.step s13 id
  obtain ⟨ka, kc, hc3⟩ := E13.keysC
  refine ⟨_, rfl, _, _, _, hc3, fun h20 => ?_, fun h20 => ?_⟩
  · exact bad 3 w13 _ (by unfold learnK; rw [if_neg (by rw [hr]; simp [hk]), if_pos (by omega)]) s13
  have hK : learnK S R cg = ({ R with keys := R.keys ++ [(toldBy S R cg).1], olds := R.olds ++ [cg.old] }, (toldBy S R cg).2) := by
    unfold learnK; rw [if_neg (by rw [hr]; simp [hk]), if_neg (by omega), Q5p _ _ hnz]
  obtain ⟨hpw, _, hb16⟩ := Q3m (Q4k hr hk)
  rw [← hC.m] at hpw
  have htb : toldBy S R cg = toldTo S R (l.map Wr.p) := by unfold toldBy toldTo; rw [hC.m]; try rfl
  rw [hlen]
  refine ⟨fun m vs w1 => ∃ (t : Nat), vs = [.int .u64 (toldTo S R ((l.map Wr.p).take t)).1, .int .i64 (toldTo S R ((l.map Wr.p).take t)).2, .int .i64 t] ∧ m + t = l.length ∧ Ext no w13 w1, l.length, ⟨0, rfl, rfl, Ext.refl _ _⟩, ?_⟩
  intro m w25 key kk i hI
  obtain ⟨t, hi, hm, X25⟩ := hI
  simp only [List.cons.injEq, Value.int.injEq, true_and, and_true] at hi
  obtain ⟨rfl, rfl, rfl⟩ := hi
  have t25 := Step.of_no X25 s13.ok
  have s25 := s13.trans t25
  have E25 := h.step s25 id
  have C25 := hC.step s25
  refine ⟨fun ht => ?_, fun ht => ?_⟩
  · have htl : t < l.length := by omega
    have hg : l[t]? = some l[t] := List.getElem?_eq_getElem htl
    have hmem := List.getElem_mem htl
    have hgm : (l.map Wr.p)[t]? = some (l[t]).p := by rw [List.getElem?_map, hg]; rfl
    have htk : (l.map Wr.p).take (t + 1) = (l.map Wr.p).take t ++ [(l[t]).p] := by rw [List.take_add_one, hgm]; rfl
    generalize l[t] = x at *
    have hw25 := C25.ws.1
    obtain ⟨ad, rfl⟩ := hw25.faddr Wr.len (by decide) htl
    refine ⟨ad, rfl, by omega, by omega, x.who, by rw [Int.toNat_natCast]; exact hw25.fcell Wr.len hg 0 rfl, _, E25.who, fun hwho => ?_, fun hwho => ⟨by omega, by omega, fun w27 X27 => ⟨m - 1, by omega, t + 1, ?_, by omega, X25.trans X27⟩⟩⟩
    · have hno : ((l.map Wr.p).take t).find? (fun p => p.1 == R.who) = none := by
        have := Q3z hpw hgm
        rwa [show x.p.1 = R.who from hwho] at this
      have ht2 : toldTo S R ((l.map Wr.p).take (t + 1)) = Q11 S R.secret x.b := by
        unfold toldTo
        rw [htk, List.find?_append, hno]
        have : (x.p.1 == R.who) = true := by rw [show x.p.1 = R.who from hwho]; simp
        rw [List.find?_cons, this]; rfl
      refine ⟨_, E25.secret, by omega, by omega, _, _, _, by rw [Int.toNat_natCast]; exact hw25.fcell Wr.len hg 1 rfl, fun w34 X34 => ?_⟩
      have t34 := Step.of_no X34 s25.ok
      have s34 := s25.trans t34
      obtain ⟨x1, x2, x3⟩ := (hC.step s34).bs x hmem
      refine Calls.mono ((hP.step s34 id).unwrap hn R.secret x1.1 x3) fun u w42 ⟨he, X42⟩ => ⟨_, _, he, ((M13.step t25).step t34).keep (Step.of_no X42 s34.ok) (fun _ _ h => h), by omega, by omega, m - 1, by omega, t + 1, ?_, by omega, (X25.trans X34).trans X42⟩
      rw [ht2]; rfl
    · have ht2 : toldTo S R ((l.map Wr.p).take (t + 1)) = toldTo S R ((l.map Wr.p).take t) := by
        unfold toldTo
        rw [htk, List.find?_append]
        have hf : (x.p.1 == R.who) = false := by
          show (x.who == R.who) = false; simpa using hwho
        have : [x.p].find? (fun p => p.1 == R.who) = none := by rw [List.find?_cons, hf]; rfl
        rw [this, Option.or_none]
      rw [ht2]; rfl
  · have htt : t = l.length := by omega
    subst htt
    rw [List.take_of_length_le (by rw [List.length_map]; exact Nat.le_refl _), ← htb]
    obtain ⟨x, hx⟩ : ∃ x, (toldBy S R cg).1 = x := ⟨_, rfl⟩
    rw [hx] at hK ⊢
    obtain ⟨ka2, kc2, hc25⟩ := E25.keysC
    refine ⟨_, _, _, hc25, fun w47 q48 X47 b47 hq47 hq47' => ?_⟩
    have t47 := Step.of_no X47 s25.ok
    have s47 := s25.trans t47
    have E47 := h.step s47 id
    obtain ⟨a6, n6, c6, w50, o50, hrun, s50, hcan, hst⟩ := E47.pushKey s47.ok (by omega) x b47 (X47.cell hc25 id)
    have M47 := (M13.step t25).step t47
    have a20 : ((blk q).add 2).add 0 = (blk q).add 2 := by rw [add_add]
    refine ⟨a6, n6, c6, w50, hrun, M47.keep s50 (fun y hy => by rw [List.mem_singleton.1 hy]; exact hpq), ?_⟩
    rw [a20]
    refine ⟨hcan, fun y hy => by rw [List.mem_singleton.1 hy, Q18]; exact hpq, Q01 fun w51 e51 => ?_⟩
    obtain ⟨s51, E51⟩ := hst w51 e51
    have s51' : Step (fun i => i = q) w o w51 _ := s47.none.trans s51
    obtain ⟨oa1, oc1, hc4⟩ := E51.oldsC
    refine ⟨_, _, _, hc4, fun w55 q56 X55 b55 hq55 hq55' => ?_⟩
    have t55 := Step.of_no X55 s51.ok
    have E55 := E51.step t55 id
    have C55 := (hC.step s51').step t55
    refine ⟨X55.cell hc4 id, ?_⟩
    obtain ⟨a8, n8, c8, w59, o59, hrun8, s59, hcan8, hst8⟩ := E55.pushOld (x := ⟨oa, oc, cg.old⟩) t55.ok (by show R.olds.length < 1000000; omega) ⟨C55.old, hoc⟩ b55 (X55.cell hc4 id)
    have a30 : ((blk q).add 3).add 0 = (blk q).add 3 := by rw [add_add]
    refine ⟨a8, n8, c8, w59, hrun8, ?_⟩
    rw [a30]
    refine ⟨hcan8, Q01 fun w60 e60 => ?_⟩
    obtain ⟨s60, E60⟩ := hst8 w60 e60
    have s60' : Step (fun i => i = q) w o w60 _ := (s51'.trans t55.none).trans s60
    have E60 : MG w60 (grow w59 o59) q { R with keys := R.keys ++ [x], olds := R.olds ++ [cg.old] } := E60
    have fin : Value.int .i64 (toldBy S R cg).2 = .int .i64 (learnK S R cg).2 ∧ ∃ o', Step (fun i => i = q) w o w60 o' ∧ MG w60 o' q (learnK S R cg).1 := by rw [hK]; exact ⟨rfl, _, s60', E60⟩
    obtain ⟨ka3, kc3, hc60⟩ := E60.keysC
    have hkl : (R.keys ++ [x]).length = R.keys.length + 1 := by simp
    have hc60 : w60.cell? ((blk q).add 2) = some (.slice ka3 (R.keys ++ [x]).length kc3) := hc60
    refine ⟨_, _, _, hc60, by omega, by omega, ?_⟩
    refine ⟨fun m vs w1 => vs = [.int .i64 (((R.keys ++ [x]).length : Int) - 1)] ∧ w1 = w60, 0, ⟨rfl, rfl⟩, ?_⟩
    rintro m2 w66 ev ⟨hev, rfl⟩
    simp only [List.cons.injEq, Value.int.injEq, true_and, and_true] at hev
    subst hev
    refine ⟨fun hgt => ?_, fun _ => fin⟩
    have e1 : Int.toNat (((R.keys ++ [x]).length : Int) - 1) = R.keys.length := by omega
    have e2 : Int.toNat (((R.keys ++ [x]).length : Int) - 1 - 1) = R.keys.length - 1 := by omega
    obtain ⟨ka4, kc4, ad4, cc4, ha4, v4⟩ := E60.key (i := R.keys.length) (by show R.keys.length < (R.keys ++ [x]).length; omega)
    have v4 : w66.cell? (ad4.add (R.keys.length * 1)) = some (.int .u64 ((R.keys ++ [x])[R.keys.length]?.getD 0)) := v4
    refine ⟨_, _, _, cc4, ad4, ha4, by omega, by show (((R.keys ++ [x]).length : Int) - 1) < ((R.keys ++ [x]).length : Int); omega, _, by rw [e1]; exact v4, fun hn1 => ?_, fun _ => fin⟩
    obtain ⟨ka5, kc5, ad5, cc5, ha5, v5⟩ := E60.key (i := R.keys.length - 1) (by show R.keys.length - 1 < (R.keys ++ [x]).length; omega)
    have v5 : w66.cell? (ad5.add ((R.keys.length - 1) * 1)) = some (.int .u64 ((R.keys ++ [x])[R.keys.length - 1]?.getD 0)) := v5
    refine ⟨_, _, _, cc5, by omega, by omega, ad5, ha5, by omega, by show (((R.keys ++ [x]).length : Int) - 1 - 1) < ((R.keys ++ [x]).length : Int); omega, _, by rw [e2]; exact v5, fun hz => ?_, fun _ => fin⟩
    exfalso
    rw [List.getElem?_append_left (by omega), List.getElem?_eq_getElem (by omega)] at hz
    exact hnz _ (List.getElem_mem _) hz
end
end Go.Proofs.Ytgeakpldocfccaa