/- Epochs: predicates. -/
import Derived.Test.YtgeakpldocfccaaZC
import Derived.Test.YtgeakpldocfccaaZD
import Derived.Test.YtgeakpldocfccaaZA
set_option linter.unusedVariables false
set_option linter.unusedSimpArgs false
set_option maxRecDepth 100000
set_option maxHeartbeats 4000000
namespace Go.Proofs.Ytgeakpldocfccaa
open Go Go.Mx Go.Proofs
def Q1j.M (o1 : Option Addr) (a1 a0 : Int) (R : RW) (w : World) : Prop :=
 bif decide (a1 < 0) then (
 R (.tuple #[.pointer none, .int .i64 1]) w) else (
 bif decide (a1 ≥ 8) then (
 R (.tuple #[.pointer none, .int .i64 1]) w) else (
 bif Option.isNone o1 then (
 R (.tuple #[.pointer none, .int .i64 23]) w) else (
 thenW (w.alloc (.cells #[.pointer o1, .int .i64 a1, .int .u64 a0, .slice none 0 0, .slice none 0 0] 108)) fun a2 =>
 R (.tuple #[.pointer (some (blk w.heap.size)), .int .i64 0]) a2)))

theorem Q1j.ok (o1 : Option Addr) (a1 a0 : Int) {R : RW} {w : World} (h : Q1j.M o1 a1 a0 R w) : Calls Try.prog 18 #[.pointer o1, .int .i64 a1, .int .u64 a0] w fun e w' => ∃ v, e = .returned v ∧ R v w' :=
  Q0i follows (H := []) (args := [.pointer o1, .int .i64 a1, .int .u64 a0]) (cast (by kernel_rfl) h)

def Q1j.N (o1 : Option Addr) (a0 a1 : Int) (R : RW) (w : World) : Prop :=
 (a0 < 0 →
 R (.tuple #[.pointer none, .int .i64 1]) w) ∧
 ((0 : Int) ≤ a0 →
 (a0 ≥ 8 →
 R (.tuple #[.pointer none, .int .i64 1]) w) ∧
 (a0 < 8 →
 (o1 = none →
 R (.tuple #[.pointer none, .int .i64 23]) w) ∧
 (o1 ≠ none →
 ∀ (a2 : World) (q8 : Nat), Ext no w a2 → Blk a2 q8 108 [.pointer o1, .int .i64 a0, .int .u64 a1, .slice none 0 0, .slice none 0 0] → w.heap.size ≤ q8 → q8 < a2.heap.size →
 R (.tuple #[.pointer (some (blk q8)), .int .i64 0]) a2)))

theorem Q1j.up (o1 : Option Addr) (a1 a0 : Int) {R : RW} {w : World} (h : Q1j.N o1 a1 a0 R w) : Q1j.M o1 a1 a0 R w := by
  unfold Q1j.M
  unfold Q1j.N at h
  refine bif_of (fun c4 => ?_) (fun c4 => ?_)
  ·have h := h.1 (of_decide_eq_true c4)
   exact h
  have h := h.2 (Int.not_lt.1 (of_decide_eq_false c4))
  refine bif_of (fun c5 => ?_) (fun c5 => ?_)
  ·have h := h.1 (of_decide_eq_true c5)
   exact h
  have h := h.2 (Int.not_le.1 (of_decide_eq_false c5))
  refine bif_of (fun c6 => ?_) (fun c6 => ?_)
  ·have h := h.1 (Q1B c6)
   exact h
  have h := h.2 (Q1C c6)
  refine Q01 fun a2 e7 => ?_
  have h := h a2 w.heap.size ((Ext.refl no w).x_alloc e7) (Blk.of_new e7) ((Ext.refl no w)).size (Q0x e7)
  exact h

theorem Q1j.go (o1 : Option Addr) (a1 a0 : Int) {R : RW} {w : World} (h : Q1j.N o1 a1 a0 R w) : Calls Try.prog 18 #[.pointer o1, .int .i64 a1, .int .u64 a0] w fun e w' => ∃ v, e = .returned v ∧ R v w' := Q1j.ok o1 a1 a0 (Q1j.up o1 a1 a0 h)
def Q0W.M (r1 : Option Addr) (a0 : Int) (R : RW) (w : World) : Prop :=
 bif Option.isNone r1 then (
 R (.tuple #[.int .u64 0, .int .i64 23]) w) else (
 bif decide (a0 < 0) then (
 R (.tuple #[.int .u64 0, .int .i64 2]) w) else (
 r1.elim False fun a3 =>
 ∃ (ad : Option Addr) (a6 ac : Nat), w.cell? (a3.add 3) = some (.slice ad a6 ac) ∧
 bif decide (a0 ≥ (a6 : Int)) then (
 R (.tuple #[.int .u64 0, .int .i64 2]) w) else (
 r1.elim False fun a5 =>
 ∃ (a8 : Option Addr) (a4 ab : Nat), w.cell? (a5.add 3) = some (.slice a8 a4 ab) ∧
 a8.elim False fun a7 =>
 0 ≤ (a0 : Int) ∧ (a0 : Int) < (a4 : Int) ∧
 ∃ (x8 : Int), w.cell? (a7.add (Int.toNat a0 * 1)) = some (.int .u64 x8) ∧
 bif x8 == 0 then (
 R (.tuple #[.int .u64 0, .int .i64 11]) w) else (
 r1.elim False fun a9 =>
 ∃ (a1 : Option Addr) (a2 aa : Nat), w.cell? (a9.add 3) = some (.slice a1 a2 aa) ∧
 a1.elim False fun af =>
 0 ≤ (a0 : Int) ∧ (a0 : Int) < (a2 : Int) ∧
 ∃ (ae : Int), w.cell? (af.add (Int.toNat a0 * 1)) = some (.int .u64 ae) ∧
 R (.tuple #[.int .u64 ae, .int .i64 0]) w))))

theorem Q0W.ok (r1 : Option Addr) (a0 : Int) {R : RW} {w : World} (h : Q0W.M r1 a0 R w) : Calls Try.prog 64 #[.pointer r1, .int .i64 a0] w fun e w' => ∃ v, e = .returned v ∧ R v w' :=
  Q0i follows (H := []) (args := [.pointer r1, .int .i64 a0]) (cast (by kernel_rfl) h)

def Q0W.N (r1 : Option Addr) (a0 : Int) (R : RW) (w : World) : Prop :=
 (r1 = none →
 R (.tuple #[.int .u64 0, .int .i64 23]) w) ∧
 (r1 ≠ none →
 (a0 < 0 →
 R (.tuple #[.int .u64 0, .int .i64 2]) w) ∧
 ((0 : Int) ≤ a0 →
 ∃ a5 : Addr, r1 = some a5 ∧
 ∃ (aa : Option Addr) (a1 a9 : Nat), w.cell? (a5.add 3) = some (.slice aa a1 a9) ∧
 (a0 ≥ (a1 : Int) →
 R (.tuple #[.int .u64 0, .int .i64 2]) w) ∧
 (a0 < (a1 : Int) →
 ∃ (a3 : Option Addr) (a6 a7 : Nat), w.cell? (a5.add 3) = some (.slice a3 a6 a7) ∧
 ∃ ad : Addr, a3 = some ad ∧
 0 ≤ (a0 : Int) ∧ (a0 : Int) < (a6 : Int) ∧
 ∃ (ab : Int), w.cell? (ad.add (Int.toNat a0 * 1)) = some (.int .u64 ab) ∧
 (ab = 0 →
 R (.tuple #[.int .u64 0, .int .i64 11]) w) ∧
 (ab ≠ 0 →
 ∃ (a4 : Option Addr) (a2 a8 : Nat), w.cell? (a5.add 3) = some (.slice a4 a2 a8) ∧
 ∃ ac : Addr, a4 = some ac ∧
 0 ≤ (a0 : Int) ∧ (a0 : Int) < (a2 : Int) ∧
 ∃ (ae : Int), w.cell? (ac.add (Int.toNat a0 * 1)) = some (.int .u64 ae) ∧
 R (.tuple #[.int .u64 ae, .int .i64 0]) w))))

theorem Q0W.up (r1 : Option Addr) (a0 : Int) {R : RW} {w : World} (h : Q0W.N r1 a0 R w) : Q0W.M r1 a0 R w := by
  unfold Q0W.M
  unfold Q0W.N at h
  refine bif_of (fun c3 => ?_) (fun c3 => ?_)
  ·have h := h.1 (Q1B c3)
   exact h
  have h := h.2 (Q1C c3)
  refine bif_of (fun c4 => ?_) (fun c4 => ?_)
  ·have h := h.1 (of_decide_eq_true c4)
   exact h
  have h := h.2 (Int.not_lt.1 (of_decide_eq_false c4))
  obtain ⟨a5, ac, h⟩ := h
  refine Q05 ac ?_
  obtain ⟨a9, a8, aa, ak, h⟩ := h
  refine ⟨a9, a8, aa, ak, ?_⟩
  refine bif_of (fun c8 => ?_) (fun c8 => ?_)
  ·have h := h.1 (of_decide_eq_true c8)
   exact h
  have h := h.2 (Int.not_le.1 (of_decide_eq_false c8))
  refine Q05 ac ?_
  obtain ⟨a3, a2, a4, an, h⟩ := h
  refine ⟨a3, a2, a4, an, ?_⟩
  obtain ⟨ao, ai, h⟩ := h
  refine Q05 ai ?_
  obtain ⟨aj, af, h⟩ := h
  refine ⟨aj, af, ?_⟩
  obtain ⟨al, ae, h⟩ := h
  refine ⟨al, ae, ?_⟩
  refine bif_of (fun ah => ?_) (fun ah => ?_)
  ·have h := h.1 (beq_t ah)
   exact h
  have h := h.2 (beq_f ah)
  refine Q05 ac ?_
  obtain ⟨a7, a1, a6, ad, h⟩ := h
  refine ⟨a7, a1, a6, ad, ?_⟩
  obtain ⟨ap, ag, h⟩ := h
  refine Q05 ag ?_
  obtain ⟨aj, af, h⟩ := h
  refine ⟨aj, af, ?_⟩
  obtain ⟨am, ab, h⟩ := h
  refine ⟨am, ab, ?_⟩
  exact h

theorem Q0W.go (r1 : Option Addr) (a0 : Int) {R : RW} {w : World} (h : Q0W.N r1 a0 R w) : Calls Try.prog 64 #[.pointer r1, .int .i64 a0] w fun e w' => ∃ v, e = .returned v ∧ R v w' := Q0W.ok r1 a0 (Q0W.up r1 a0 h)
theorem Q0W.run (r1 : Option Addr) (a0 : Int) {V : Value} {Q : World → Prop} {w : World} (h : Q0W.N r1 a0 (fun v w' => v = V ∧ Q w') w) : Calls Try.prog 64 #[.pointer r1, .int .i64 a0] w (Ret V Q) := (Q0W.go r1 a0 h).mono fun e w' ⟨v, he, hv, hq⟩ => ⟨by rw [he, hv], hq⟩

def Q1c.M (a3 : Int) (R : RW) (w : World) : Prop :=
 Calls Try.prog 74 #[.slice none 0 0, .int .u64 (IntKind.u64.wrap a3)] w fun a4 a5 => ∃ (a2 : Option Addr) (a1 a0 : Nat), a4 = .returned (.slice a2 a1 a0) ∧
 R (.slice a2 a1 a0) a5

theorem Q1c.ok (a0 : Int) {R : RW} {w : World} (h : Q1c.M a0 R w) : Calls Try.prog 42 #[.int .i64 a0] w fun e w' => ∃ v, e = .returned v ∧ R v w' :=
  Q0i follows (H := []) (args := [.int .i64 a0]) (cast (by kernel_rfl) h)

def Q1c.N (a3 : Int) (R : RW) (w : World) : Prop :=
 Calls Try.prog 74 #[.slice none 0 0, .int .u64 (IntKind.u64.wrap a3)] w fun a4 a5 => ∃ (a2 : Option Addr) (a1 a0 : Nat), a4 = .returned (.slice a2 a1 a0) ∧
 R (.slice a2 a1 a0) a5

theorem Q1c.up (a0 : Int) {R : RW} {w : World} (h : Q1c.N a0 R w) : Q1c.M a0 R w := by
  unfold Q1c.M
  unfold Q1c.N at h
  refine h.mono fun a4 a5 h => ?_
  obtain ⟨a3, a2, a1, he, h⟩ := h
  refine ⟨a3, a2, a1, he, ?_⟩
  exact h

theorem Q1c.go (a0 : Int) {R : RW} {w : World} (h : Q1c.N a0 R w) : Calls Try.prog 42 #[.int .i64 a0] w fun e w' => ∃ v, e = .returned v ∧ R v w' := Q1c.ok a0 (Q1c.up a0 h)
abbrev Q13.J1 (j8 : Option Addr) (j9 a8 : Nat) (a6 : Int) (I0 : Nat → List Value → World → Prop) (m5 : Nat) (n1 : Int) (R : RW) (a4 : World) : Prop :=
 0 ≤ ((IntKind.i64.wrap ((56 : Int) - (IntKind.i64.wrap ((8 : Int) * a6)))) : Int) ∧
 thenW (a4.alloc (.cells #[.int .u8 (IntKind.u8.wrap (Int.fdiv n1 (2 ^ (min (Int.toNat (IntKind.i64.wrap ((56 : Int) - (IntKind.i64.wrap ((8 : Int) * a6))))) (IntKind.bits .u64)))))] 5)) fun a5 =>
 ∃ (a1 : Option Addr) (a3 a0 : Nat) (a2 : World), (Builtin.append_ #[25, 25] 25 #[.slice j8 j9 a8, .slice (some (blk a4.heap.size)) 1 1]).run Try.prog a5 = .ok (.slice a1 a3 a0) a2 ∧
 ∃ a7, a7 < m5 ∧ I0 a7 [.slice a1 a3 a0, .int .i64 (IntKind.i64.wrap (a6 + 1))] a2

def Q13.M (n1 : Int) (R : RW) (w : World) : Prop :=
 ∃ (I0 : Nat → List Value → World → Prop) (m4 : Nat), I0 m4 [.slice none 0 0, .int .i64 0] w ∧ ∀ (m5 : Nat) (a1 : World) (a0 : Option Addr) (a3 a2 : Nat) (t3 : Int), I0 m5 [.slice a0 a3 a2, .int .i64 t3] a1 →
 bif decide (t3 < 8) then (
 Q13.J1 a0 a3 a2 t3 I0 m5 n1 R a1) else (
 R (.slice a0 a3 a2) a1)

theorem Q13.ok (n1 : Int) {R : RW} {w : World} (h : Q13.M n1 R w) : Calls Try.prog 43 #[.int .u64 n1] w fun e w' => ∃ v, e = .returned v ∧ R v w' :=
  Q0i follows (H := [(0, [0], [(2, (.one .slice)), (4, (.one (.int .i64)))])]) (args := [.int .u64 n1]) (cast (by kernel_rfl) h)

def Q13.N (n1 : Int) (R : RW) (w : World) : Prop :=
 ∃ (I0 : Nat → List Value → World → Prop) (m4 : Nat), I0 m4 [.slice none 0 0, .int .i64 0] w ∧ ∀ (m5 : Nat) (a5 : World) (a6 : Option Addr) (a7 a8 : Nat) (t3 : Int), I0 m5 [.slice a6 a7 a8, .int .i64 t3] a5 →
 (t3 < 8 →
 (-9223372036854775808 : Int) ≤ ((8 : Int) * t3) ∧ ((8 : Int) * t3) < 9223372036854775808 ∧
 (-9223372036854775808 : Int) ≤ ((56 : Int) - ((8 : Int) * t3)) ∧ ((56 : Int) - ((8 : Int) * t3)) < 9223372036854775808 ∧
 0 ≤ (((56 : Int) - ((8 : Int) * t3)) : Int) ∧
 ∀ (a4 : World) (q9 : Nat), Ext no a5 a4 → Blk a4 q9 5 [.int .u8 (IntKind.u8.wrap (Int.fdiv n1 (2 ^ (min (Int.toNat ((56 : Int) - ((8 : Int) * t3))) (IntKind.bits .u64)))))] → a5.heap.size ≤ q9 → q9 < a4.heap.size →
 ∃ (a3 : Option Addr) (a1 a2 : Nat) (a0 : World), (Builtin.append_ #[25, 25] 25 #[.slice a6 a7 a8, .slice (some (blk q9)) 1 1]).run Try.prog a4 = .ok (.slice a3 a1 a2) a0 ∧
 (-9223372036854775808 : Int) ≤ (t3 + 1) ∧ (t3 + 1) < 9223372036854775808 ∧
 ∃ a9, a9 < m5 ∧ I0 a9 [.slice a3 a1 a2, .int .i64 (t3 + 1)] a0) ∧
 ((8 : Int) ≤ t3 →
 R (.slice a6 a7 a8) a5)

theorem Q13.up (n1 : Int) {R : RW} {w : World} (h : Q13.N n1 R w) : Q13.M n1 R w := by
  unfold Q13.M
  unfold Q13.N at h
  obtain ⟨I0, m4, h0, h⟩ := h
  refine ⟨I0, m4, h0, fun m5 a2 a7 aa ab t3 hI => ?_⟩
  have h := h m5 a2 a7 aa ab t3 hI
  refine bif_fo (fun c7 => ?_) (fun c7 => ?_)
  ·have h := h.2 (Int.not_lt.1 (of_decide_eq_false c7))
   exact h
  have h := h.1 (of_decide_eq_true c7)
  unfold Q13.J1
  obtain ⟨a1, a0, h⟩ := h
  try rw [w64 a1 a0]
  obtain ⟨a1, a0, h⟩ := h
  try rw [w64 a1 a0]
  obtain ⟨hp, h⟩ := h
  refine ⟨hp, ?_⟩
  refine Q01 fun a8 e8 => ?_
  have h := h a8 a2.heap.size ((Ext.refl no a2).x_alloc e8) (Blk.of_new e8) ((Ext.refl no a2)).size (Q0x e8)
  obtain ⟨a6, a4, a5, a3, hr, h⟩ := h
  refine ⟨a6, a4, a5, a3, hr, ?_⟩
  obtain ⟨a1, a0, h⟩ := h
  try rw [w64 a1 a0]
  obtain ⟨a9, hk, h⟩ := h
  exact ⟨a9, hk, h⟩

theorem Q13.go (n1 : Int) {R : RW} {w : World} (h : Q13.N n1 R w) : Calls Try.prog 43 #[.int .u64 n1] w fun e w' => ∃ v, e = .returned v ∧ R v w' := Q13.ok n1 (Q13.up n1 h)
abbrev Q0X.J1 (a7 : Int) (I0 : Nat → List Value → World → Prop) (m6 : Nat) (r1 : Option Addr) (R : RW) (ay : World) : Prop :=
 thenW (ay.drew) fun ah =>
 r1.elim False fun b5 =>
 ∃ (av : Option Addr), ah.cell? (b5.add 0) = some (.pointer av) ∧
 r1.elim False fun b2 =>
 ∃ (a1 : Option Addr) (a4 ae : Nat), ah.cell? (b2.add 3) = some (.slice a1 a4 ae) ∧
 a1.elim False fun b4 =>
 0 ≤ (a7 : Int) ∧ (a7 : Int) < (a4 : Int) ∧
 ∃ (b0 : Int), ah.cell? (b4.add (Int.toNat a7 * 1)) = some (.int .u64 b0) ∧
 r1.elim False fun b6 =>
 ∃ (a3 : Option Addr) (a2 af : Nat), ah.cell? (b6.add 4) = some (.slice a3 a2 af) ∧
 a3.elim False fun b8 =>
 0 ≤ (a7 : Int) ∧ (a7 : Int) < (a2 : Int) ∧
 ∃ (ar : Option Addr) (ap aq : Nat), ah.cell? (b8.add (Int.toNat a7 * 1)) = some (.slice ar ap aq) ∧
 Calls Try.prog 42 #[.int .i64 a7] ah fun ax ai => ∃ (a6 : Option Addr) (a8 a5 : Nat), ax = .returned (.slice a6 a8 a5) ∧
 ai.cell? (b8.add (Int.toNat a7 * 1)) = some (.slice ar ap aq) ∧
 ai.cell? (b6.add 4) = some (.slice a3 a2 af) ∧
 ai.cell? (b4.add (Int.toNat a7 * 1)) = some (.int .u64 b0) ∧
 ai.cell? (b2.add 3) = some (.slice a1 a4 ae) ∧
 ai.cell? (b5.add 0) = some (.pointer av) ∧
 Calls Try.prog 31 #[.pointer av, .int .u64 b0, .slice a6 a8 a5, .slice ar ap aq] ai fun aw ao => ∃ (a9 : Option Addr) (a0 aj : Nat) (ac : Int), aw = .returned (.tuple #[.slice a9 a0 aj, .int .i64 ac]) ∧
 bif ac != 0 then (
 R (.tuple #[]) ao) else (
 bif (a0 : Int) != 8 then (
 R (.tuple #[]) ao) else (
 ∃ (I2 : Nat → List Value → World → Prop) (bf : Nat), I2 bf [.int .i64 0] ao ∧ ∀ (b3 : Nat) (am : World) (au : Int), I2 b3 [.int .i64 au] am →
 bif decide (au < (a0 : Int)) then (
 a9.elim False fun be =>
 0 ≤ (au : Int) ∧ (au : Int) < (a0 : Int) ∧
 ∃ (ba : Int), am.cell? (be.add (Int.toNat au * 1)) = some (.int .u8 ba) ∧
 thenW (am.drew) fun ak =>
 r1.elim False fun bd =>
 ∃ (ag : Option Addr) (aa al : Nat), ak.cell? (bd.add 3) = some (.slice ag aa al) ∧
 r1.elim False fun bg =>
 ∃ (ab : Option Addr) (ad an : Nat), ak.cell? (bg.add 3) = some (.slice ab ad an) ∧
 ab.elim False fun bc =>
 0 ≤ ((IntKind.i64.wrap (a7 - 1)) : Int) ∧ ((IntKind.i64.wrap (a7 - 1)) : Int) < (ad : Int) ∧
 ∃ (bb : Int), ak.cell? (bc.add (Int.toNat (IntKind.i64.wrap (a7 - 1)) * 1)) = some (.int .u64 bb) ∧
 0 ≤ (8 : Int) ∧
 ag.elim False fun b7 =>
 0 ≤ ((IntKind.i64.wrap (a7 - 1)) : Int) ∧ ((IntKind.i64.wrap (a7 - 1)) : Int) < (aa : Int) ∧
 Q0d ak ((b7.add (Int.toNat (IntKind.i64.wrap (a7 - 1)) * 1)).add 0) ∧
 thenW (ak.setCell ((b7.add (Int.toNat (IntKind.i64.wrap (a7 - 1)) * 1)).add 0) (.int .u64 (IntKind.u64.wrap ((BitVec.ofInt (IntKind.bits .u64) (IntKind.u64.wrap (bb * 2 ^ (min (Int.toNat 8) (IntKind.bits .u64)))) ||| BitVec.ofInt (IntKind.bits .u64) (IntKind.u64.wrap ba)).toNat)))) fun az =>
 ∃ b1, b1 < b3 ∧ I2 b1 [.int .i64 (IntKind.i64.wrap (au + 1))] az) else (
 ∃ b9, b9 < m6 ∧ I0 b9 [.int .i64 (IntKind.i64.wrap (a7 - 1))] am)))

def Q0X.M (r1 : Option Addr) (R : RW) (w : World) : Prop :=
 r1.elim False fun a2 =>
 ∃ (aa : Option Addr) (a3 ac : Nat), w.cell? (a2.add 3) = some (.slice aa a3 ac) ∧
 ∃ (I0 : Nat → List Value → World → Prop) (m5 : Nat), I0 m5 [.int .i64 (IntKind.i64.wrap ((a3 : Int) - 1))] w ∧ ∀ (m6 : Nat) (a6 : World) (a7 : Int), I0 m6 [.int .i64 a7] a6 →
 bif decide (a7 > 0) then (
 r1.elim False fun a8 =>
 ∃ (a4 : Option Addr) (a5 ab : Nat), a6.cell? (a8.add 3) = some (.slice a4 a5 ab) ∧
 a4.elim False fun ah =>
 0 ≤ (a7 : Int) ∧ (a7 : Int) < (a5 : Int) ∧
 ∃ (ad : Int), a6.cell? (ah.add (Int.toNat a7 * 1)) = some (.int .u64 ad) ∧
 bif ad != 0 then (
 r1.elim False fun af =>
 ∃ (a1 : Option Addr) (a0 a9 : Nat), a6.cell? (af.add 3) = some (.slice a1 a0 a9) ∧
 a1.elim False fun ag =>
 0 ≤ ((IntKind.i64.wrap (a7 - 1)) : Int) ∧ ((IntKind.i64.wrap (a7 - 1)) : Int) < (a0 : Int) ∧
 ∃ (ae : Int), a6.cell? (ag.add (Int.toNat (IntKind.i64.wrap (a7 - 1)) * 1)) = some (.int .u64 ae) ∧
 bif ae == 0 then (
 Q0X.J1 a7 I0 m6 r1 R a6) else (
 R (.tuple #[]) a6)) else (
 R (.tuple #[]) a6)) else (
 R (.tuple #[]) a6)

theorem Q0X.ok (r1 : Option Addr) {R : RW} {w : World} (h : Q0X.M r1 R w) : Calls Try.prog 61 #[.pointer r1] w fun e w' => ∃ v, e = .returned v ∧ R v w' :=
  Q0i follows (H := [(0, [0], [(2, (.one (.int .i64)))]), (2, [0, 2, 69, 70], [(71, (.one (.int .i64)))])]) (args := [.pointer r1]) (cast (by kernel_rfl) h)

def Q0X.N (r1 : Option Addr) (R : RW) (w : World) : Prop :=
 ∃ a2 : Addr, r1 = some a2 ∧
 ∃ (b1 : Option Addr) (a7 b0 : Nat), w.cell? (a2.add 3) = some (.slice b1 a7 b0) ∧
 (-9223372036854775808 : Int) ≤ ((a7 : Int) - 1) ∧ ((a7 : Int) - 1) < 9223372036854775808 ∧
 ∃ (I0 : Nat → List Value → World → Prop) (m6 : Nat), I0 m6 [.int .i64 ((a7 : Int) - 1)] w ∧ ∀ (m7 : Nat) (aj : World) (a1 : Int), I0 m7 [.int .i64 a1] aj →
 (a1 > 0 →
 ∃ (ah : Option Addr) (ao ax : Nat), aj.cell? (a2.add 3) = some (.slice ah ao ax) ∧
 ∃ bj : Addr, ah = some bj ∧
 0 ≤ (a1 : Int) ∧ (a1 : Int) < (ao : Int) ∧
 ∃ (bd : Int), aj.cell? (bj.add (Int.toNat a1 * 1)) = some (.int .u64 bd) ∧
 (bd ≠ 0 →
 ∃ (af : Option Addr) (ai au : Nat), aj.cell? (a2.add 3) = some (.slice af ai au) ∧
 (-9223372036854775808 : Int) ≤ (a1 - 1) ∧ (a1 - 1) < 9223372036854775808 ∧
 ∃ bk : Addr, af = some bk ∧
 0 ≤ ((a1 - 1) : Int) ∧ ((a1 - 1) : Int) < (ai : Int) ∧
 ∃ (b9 : Int), aj.cell? (bk.add (Int.toNat (a1 - 1) * 1)) = some (.int .u64 b9) ∧
 (b9 = 0 →
 ∃ (be : Option Addr), aj.cell? (a2.add 0) = some (.pointer be) ∧
 ∃ (a8 : Option Addr) (a5 an : Nat), aj.cell? (a2.add 3) = some (.slice a8 a5 an) ∧
 ∃ bb : Addr, a8 = some bb ∧
 0 ≤ (a1 : Int) ∧ (a1 : Int) < (a5 : Int) ∧
 ∃ (bc : Int), aj.cell? (bb.add (Int.toNat a1 * 1)) = some (.int .u64 bc) ∧
 ∃ (a4 : Option Addr) (a6 al : Nat), aj.cell? (a2.add 4) = some (.slice a4 a6 al) ∧
 ∃ bf : Addr, a4 = some bf ∧
 0 ≤ (a1 : Int) ∧ (a1 : Int) < (a6 : Int) ∧
 ∃ (b2 : Option Addr) (ay b4 : Nat), aj.cell? (bf.add (Int.toNat a1 * 1)) = some (.slice b2 ay b4) ∧
 ∀ (b5 : World), Ext no aj b5 →
 Calls Try.prog 42 #[.int .i64 a1] b5 fun b8 ap => ∃ (a9 : Option Addr) (aa ab : Nat), b8 = .returned (.slice a9 aa ab) ∧
 ap.cell? (bf.add (Int.toNat a1 * 1)) = some (.slice b2 ay b4) ∧
 ap.cell? (a2.add 4) = some (.slice a4 a6 al) ∧
 ap.cell? (bb.add (Int.toNat a1 * 1)) = some (.int .u64 bc) ∧
 ap.cell? (a2.add 3) = some (.slice a8 a5 an) ∧
 ap.cell? (a2.add 0) = some (.pointer be) ∧
 Calls Try.prog 31 #[.pointer be, .int .u64 bc, .slice a9 aa ab, .slice b2 ay b4] ap fun ba b3 => ∃ (ac : Option Addr) (a0 aq : Nat) (a3 : Int), ba = .returned (.tuple #[.slice ac a0 aq, .int .i64 a3]) ∧
 (a3 ≠ 0 →
 R (.tuple #[]) b3) ∧
 (a3 = 0 →
 ((a0 : Int) ≠ 8 →
 R (.tuple #[]) b3) ∧
 ((a0 : Int) = 8 →
 ∃ (I2 : Nat → List Value → World → Prop) (bp : Nat), I2 bp [.int .i64 0] b3 ∧ ∀ (bn : Nat) (ad : World) (aw : Int), I2 bn [.int .i64 aw] ad →
 (aw < (a0 : Int) →
 ∃ bl : Addr, ac = some bl ∧
 0 ≤ (aw : Int) ∧ (aw : Int) < (a0 : Int) ∧
 ∃ (bo : Int), ad.cell? (bl.add (Int.toNat aw * 1)) = some (.int .u8 bo) ∧
 ∃ (ae : Option Addr) (am ar : Nat), ad.cell? (a2.add 3) = some (.slice ae am ar) ∧
 (-9223372036854775808 : Int) ≤ (a1 - 1) ∧ (a1 - 1) < 9223372036854775808 ∧
 ∃ (ag : Option Addr) (ak av : Nat), ad.cell? (a2.add 3) = some (.slice ag ak av) ∧
 (-9223372036854775808 : Int) ≤ (a1 - 1) ∧ (a1 - 1) < 9223372036854775808 ∧
 ∃ bg : Addr, ag = some bg ∧
 0 ≤ ((a1 - 1) : Int) ∧ ((a1 - 1) : Int) < (ak : Int) ∧
 ∃ (bm : Int), ad.cell? (bg.add (Int.toNat (a1 - 1) * 1)) = some (.int .u64 bm) ∧
 ∃ b6 : Addr, ae = some b6 ∧
 0 ≤ ((a1 - 1) : Int) ∧ ((a1 - 1) : Int) < (am : Int) ∧
 ∀ (az : World), Ext no ad az →
 Q0d az ((b6.add (Int.toNat (a1 - 1) * 1)).add 0) ∧
 thenW (az.setCell ((b6.add (Int.toNat (a1 - 1) * 1)).add 0) (.int .u64 (IntKind.u64.wrap ((BitVec.ofInt (IntKind.bits .u64) (IntKind.u64.wrap (bm * 256)) ||| BitVec.ofInt (IntKind.bits .u64) (IntKind.u64.wrap bo)).toNat)))) fun b7 =>
 (-9223372036854775808 : Int) ≤ (aw + 1) ∧ (aw + 1) < 9223372036854775808 ∧
 ∃ bi, bi < bn ∧ I2 bi [.int .i64 (aw + 1)] b7) ∧
 ((a0 : Int) ≤ aw →
 (-9223372036854775808 : Int) ≤ (a1 - 1) ∧ (a1 - 1) < 9223372036854775808 ∧
 ∃ bh, bh < m7 ∧ I0 bh [.int .i64 (a1 - 1)] ad)))) ∧
 (b9 ≠ 0 →
 R (.tuple #[]) aj)) ∧
 (bd = 0 →
 R (.tuple #[]) aj)) ∧
 (a1 ≤ 0 →
 R (.tuple #[]) aj)

theorem Q0X.up (r1 : Option Addr) {R : RW} {w : World} (h : Q0X.N r1 R w) : Q0X.M r1 R w := by
  unfold Q0X.M
  unfold Q0X.N at h
  obtain ⟨a2, ay, h⟩ := h
  refine Q05 ay ?_
  obtain ⟨b0, az, b1, c4, h⟩ := h
  refine ⟨b0, az, b1, c4, ?_⟩
  obtain ⟨a7, ab, h⟩ := h
  try rw [w64 a7 ab]
  obtain ⟨I0, m6, h0, h⟩ := h
  refine ⟨I0, m6, h0, fun m7 c3 ch hI => ?_⟩
  have h := h m7 c3 ch hI
  refine bif_fo (fun c9 => ?_) (fun c9 => ?_)
  ·have h := h.2 (Int.not_lt.1 (of_decide_eq_false c9))
   exact h
  have h := h.1 (of_decide_eq_true c9)
  refine Q05 ay ?_
  obtain ⟨ao, ai, af, bd, h⟩ := h
  refine ⟨ao, ai, af, bd, ?_⟩
  obtain ⟨cu, bs, h⟩ := h
  refine Q05 bs ?_
  obtain ⟨a3, a0, h⟩ := h
  refine ⟨a3, a0, ?_⟩
  obtain ⟨cf, bc, h⟩ := h
  refine ⟨cf, bc, ?_⟩
  refine bif_fo (fun b6 => ?_) (fun b6 => ?_)
  ·have h := h.2 (bne_f b6)
   exact h
  have h := h.1 (bne_t b6)
  refine Q05 ay ?_
  obtain ⟨ad, ae, ac, c1, h⟩ := h
  refine ⟨ad, ae, ac, c1, ?_⟩
  obtain ⟨a7, ab, h⟩ := h
  try rw [w64 a7 ab]
  obtain ⟨cq, b3, h⟩ := h
  refine Q05 b3 ?_
  obtain ⟨a3, a0, h⟩ := h
  refine ⟨a3, a0, ?_⟩
  obtain ⟨cd, br, h⟩ := h
  refine ⟨cd, br, ?_⟩
  refine bif_fo (fun bh => ?_) (fun bh => ?_)
  ·have h := h.2 (beq_f bh)
   exact h
  have h := h.1 (beq_t bh)
  unfold Q0X.J1
  refine Q01 fun b5 cg => ?_
  have a1 := (Ext.refl no c3).x_drew cg
  refine Q05 ay ?_
  obtain ⟨c6, bz, h⟩ := h
  refine ⟨c6, (a1).cell bz id, ?_⟩
  refine Q05 ay ?_
  obtain ⟨ah, ax, an, b4, h⟩ := h
  refine ⟨ah, ax, an, (a1).cell b4 id, ?_⟩
  obtain ⟨cs, ba, h⟩ := h
  refine Q05 ba ?_
  obtain ⟨a3, a0, h⟩ := h
  refine ⟨a3, a0, ?_⟩
  obtain ⟨c7, bl, h⟩ := h
  refine ⟨c7, (a1).cell bl id, ?_⟩
  refine Q05 ay ?_
  obtain ⟨ap, ag, aq, bj, h⟩ := h
  refine ⟨ap, ag, aq, (a1).cell bj id, ?_⟩
  obtain ⟨cr, bu, h⟩ := h
  refine Q05 bu ?_
  obtain ⟨a3, a0, h⟩ := h
  refine ⟨a3, a0, ?_⟩
  obtain ⟨b9, bn, b8, bx, h⟩ := h
  refine ⟨b9, bn, b8, (a1).cell bx id, ?_⟩
  have h := h b5 a1
  refine h.mono fun cn cj h => ?_
  obtain ⟨a8, a9, a6, he, h⟩ := h
  refine ⟨a8, a9, a6, he, ?_⟩
  obtain ⟨bm, bp, bi, b7, bg, h⟩ := h
  refine ⟨bm, bp, bi, b7, bg, ?_⟩
  refine h.mono fun co ca h => ?_
  obtain ⟨a4, aa, a5, ar, he, h⟩ := h
  refine ⟨a4, aa, a5, ar, he, ?_⟩
  refine bif_of (fun bo => ?_) (fun bo => ?_)
  ·have h := h.1 (bne_t bo)
   exact h
  have h := h.2 (bne_f bo)
  refine bif_of (fun bv => ?_) (fun bv => ?_)
  ·have h := h.1 (bne_t bv)
   exact h
  have h := h.2 (bne_f bv)
  obtain ⟨I2, cm, h0, h⟩ := h
  refine ⟨I2, cm, h0, fun ci b2 c8 hI => ?_⟩
  have h := h ci b2 c8 hI
  refine bif_fo (fun bw => ?_) (fun bw => ?_)
  ·have h := h.2 (Int.not_lt.1 (of_decide_eq_false bw))
   obtain ⟨a7, ab, h⟩ := h
   try rw [w64 a7 ab]
   obtain ⟨cl, hk, h⟩ := h
   exact ⟨cl, hk, h⟩
  have h := h.1 (of_decide_eq_true bw)
  obtain ⟨cv, c2, h⟩ := h
  refine Q05 c2 ?_
  obtain ⟨a3, a0, h⟩ := h
  refine ⟨a3, a0, ?_⟩
  obtain ⟨ck, bf, h⟩ := h
  refine ⟨ck, bf, ?_⟩
  refine Q01 fun be cb => ?_
  have al := (Ext.refl no b2).x_drew cb
  refine Q05 ay ?_
  obtain ⟨ak, am, aj, c0, h⟩ := h
  refine ⟨ak, am, aj, (al).cell c0 id, ?_⟩
  obtain ⟨a7, ab, h⟩ := h
  try rw [w64 a7 ab]
  refine Q05 ay ?_
  obtain ⟨au, aw, av, bk, h⟩ := h
  refine ⟨au, aw, av, (al).cell bk id, ?_⟩
  obtain ⟨a7, ab, h⟩ := h
  try rw [w64 a7 ab]
  obtain ⟨cw, bb, h⟩ := h
  refine Q05 bb ?_
  obtain ⟨a3, a0, h⟩ := h
  refine ⟨a3, a0, ?_⟩
  obtain ⟨cp, bq, h⟩ := h
  refine ⟨cp, (al).cell bq id, ?_⟩
  refine ⟨by decide, ?_⟩
  try rw [show (2 ^ (min (Int.toNat 8) (IntKind.bits .u64)) : Int) = 256 from rfl]
  obtain ⟨ct, bt, h⟩ := h
  refine Q05 bt ?_
  obtain ⟨a3, a0, h⟩ := h
  refine ⟨a3, a0, ?_⟩
  have h := h be al
  obtain ⟨hcs, h⟩ := h
  refine ⟨hcs, Q01 fun cc ce => ?_⟩
  replace h := Q1d h ce
  obtain ⟨a7, ab, h⟩ := h
  try rw [w64 a7 ab]
  obtain ⟨c5, hk, h⟩ := h
  exact ⟨c5, hk, h⟩

theorem Q0X.go (r1 : Option Addr) {R : RW} {w : World} (h : Q0X.N r1 R w) : Calls Try.prog 61 #[.pointer r1] w fun e w' => ∃ v, e = .returned v ∧ R v w' := Q0X.ok r1 (Q0X.up r1 h)
def Q0L.M (a1 : Int) (a5 : Option Addr) (a4 a6 : Nat) (a7 : Addr) (R : RW) (w : World) : Prop :=
 thenW (w.alloc (.cells #[.int .i64 a1, .slice a5 a4 a6] 115)) fun a9 =>
 thenW (a9.drew) fun a3 =>
 ∃ (a2 : Int), a3.cell? ((blk w.heap.size).add 0) = some (.int .i64 a2) ∧
 ∃ (x7 : Option Addr), a3.cell? a7 = some (.pointer x7) ∧
 x7.elim False fun a8 =>
 ∃ (a0 : Int), a3.cell? (a8.add 1) = some (.int .i64 a0) ∧
 R (.bool (a2 == a0)) a3

theorem Q0L.ok (a0 : Int) (a2 : Option Addr) (a1 a4 : Nat) (a3 : Addr) {R : RW} {w : World} (h : Q0L.M a0 a2 a1 a4 a3 R w) : Calls Try.prog 57 #[.agg #[.int .i64 a0, .slice a2 a1 a4], .pointer (some a3)] w fun e w' => ∃ v, e = .returned v ∧ R v w' :=
  Q0i follows (H := []) (args := [.agg #[.int .i64 a0, .slice a2 a1 a4], .pointer (some a3)]) (cast (by kernel_rfl) h)

def Q0L.N (a1 : Int) (a5 : Option Addr) (a4 a6 : Nat) (a2 : Addr) (R : RW) (w : World) : Prop :=
 ∃ (x7 : Option Addr), w.cell? a2 = some (.pointer x7) ∧
 ∃ a8 : Addr, x7 = some a8 ∧
 ∃ (a0 : Int), w.cell? (a8.add 1) = some (.int .i64 a0) ∧
 ∀ (a3 : World), Ext no w a3 →
 R (.bool (a1 == a0)) a3

theorem Q0L.up (a0 : Int) (a2 : Option Addr) (a1 a4 : Nat) (a5 : Addr) {R : RW} {w : World} (h : Q0L.N a0 a2 a1 a4 a5 R w) : Q0L.M a0 a2 a1 a4 a5 R w := by
  unfold Q0L.M
  unfold Q0L.N at h
  refine Q01 fun af e4 => ?_
  have a7 := Blk.of_new e4
  have ae := ((Ext.refl no w)).size
  have ac := (Ext.refl no w).x_alloc e4
  refine Q01 fun a9 e5 => ?_
  have a6 := ac.x_drew e5
  have a7 := a7.x_drew e5
  refine ⟨a0, a7.celli 0 rfl rfl, ?_⟩
  obtain ⟨x7, aa, h⟩ := h
  refine ⟨x7, (a6).cell aa id, ?_⟩
  obtain ⟨a8, ad, h⟩ := h
  refine Q05 ad ?_
  obtain ⟨a3, ab, h⟩ := h
  refine ⟨a3, (a6).cell ab id, ?_⟩
  have h := h a9 a6
  exact h

theorem Q0L.go (a0 : Int) (a2 : Option Addr) (a1 a4 : Nat) (a3 : Addr) {R : RW} {w : World} (h : Q0L.N a0 a2 a1 a4 a3 R w) : Calls Try.prog 57 #[.agg #[.int .i64 a0, .slice a2 a1 a4], .pointer (some a3)] w fun e w' => ∃ v, e = .returned v ∧ R v w' := Q0L.ok a0 a2 a1 a4 a3 (Q0L.up a0 a2 a1 a4 a3 h)
theorem Q0L.run (a0 : Int) (a2 : Option Addr) (a1 a4 : Nat) (a3 : Addr) {V : Value} {Q : World → Prop} {w : World} (h : Q0L.N a0 a2 a1 a4 a3 (fun v w' => v = V ∧ Q w') w) : Calls Try.prog 57 #[.agg #[.int .i64 a0, .slice a2 a1 a4], .pointer (some a3)] w (Ret V Q) := (Q0L.go a0 a2 a1 a4 a3 h).mono fun e w' ⟨v, he, hv, hq⟩ => ⟨by rw [he, hv], hq⟩

def Q07.M (ag : Option Addr) (ac ah a9 : Nat) (ab af : Array Value) (R : RW) (w : World) : Prop :=
 ∃ (I0 : Nat → List Value → World → Prop) (m4 : Nat), I0 m4 [.int .i64 0] w ∧ ∀ (m5 : Nat) (a6 : World) (t3 : Int), I0 m5 [.int .i64 t3] a6 →
 bif decide (t3 < (ac : Int)) then (
 ag.elim False fun a7 =>
 0 ≤ (t3 : Int) ∧ (t3 : Int) < (ac : Int) ∧
 ∃ (a0 : Int) (a1 : Option Addr) (a4 a2 : Nat), cellsAt a6 (a7.add (Int.toNat t3 * 2)) [.int .i64 a0, .slice a1 a4 a2] 0 ∧
 bif enters Try.prog a9 then Calls Try.prog a9 (ab.toList ++ ([.agg #[.int .i64 a0, .slice a1 a4 a2]] : List Value) ++ af.toList).toArray a6 (fun aa a8 => ∃ (a5 : Bool), aa = .returned (.bool a5) ∧
 bif a5 then (
 R (.int .i64 t3) a8) else (
 ∃ ae, ae < m5 ∧ I0 ae [.int .i64 (IntKind.i64.wrap (t3 + 1))] a8)) else (∃ (a5 : Bool) (a3 : World), (Q1l a9 (ab.toList ++ ([.agg #[.int .i64 a0, .slice a1 a4 a2]] : List Value) ++ af.toList).toArray).run Try.prog a6 = .ok (.bool a5) a3 ∧
 bif a5 then (
 R (.int .i64 t3) a3) else (
 ∃ ad, ad < m5 ∧ I0 ad [.int .i64 (IntKind.i64.wrap (t3 + 1))] a3))) else (
 R (.int .i64 (-1)) a6)

theorem Q07.ok (a4 : Option Addr) (a2 a3 a0 : Nat) (a1 a5 : Array Value) {R : RW} {w : World} (h : Q07.M a4 a2 a3 a0 a1 a5 R w) : Calls Try.prog 58 #[.slice a4 a2 a3, .func (.func a0) a1 a5] w fun e w' => ∃ v, e = .returned v ∧ R v w' :=
  Q0i follows (H := [(0, [0, 1, 7], [(8, (.one (.int .i64)))])]) (args := [.slice a4 a2 a3, .func (.func a0) a1 a5]) (cast (by kernel_rfl) h)

def Q07.N (ad : Option Addr) (a9 af aa : Nat) (ac ae : Array Value) (R : RW) (w : World) : Prop :=
 ∃ (I0 : Nat → List Value → World → Prop) (m4 : Nat), I0 m4 [.int .i64 0] w ∧ ∀ (m5 : Nat) (a5 : World) (t3 : Int), I0 m5 [.int .i64 t3] a5 →
 (t3 < (a9 : Int) →
 ∃ a8 : Addr, ad = some a8 ∧
 0 ≤ (t3 : Int) ∧ (t3 : Int) < (a9 : Int) ∧
 ∃ (a0 : Int) (a3 : Option Addr) (a1 a2 : Nat), cellsAt a5 (a8.add (Int.toNat t3 * 2)) [.int .i64 a0, .slice a3 a1 a2] 0 ∧
 enters Try.prog aa = true ∧ Calls Try.prog aa (ac.toList ++ ([.agg #[.int .i64 a0, .slice a3 a1 a2]] : List Value) ++ ae.toList).toArray a5 (fun a6 a4 => ∃ (a7 : Bool), a6 = .returned (.bool a7) ∧
 (a7 = true →
 R (.int .i64 t3) a4) ∧
 (a7 = false →
 (-9223372036854775808 : Int) ≤ (t3 + 1) ∧ (t3 + 1) < 9223372036854775808 ∧
 ∃ ab, ab < m5 ∧ I0 ab [.int .i64 (t3 + 1)] a4))) ∧
 ((a9 : Int) ≤ t3 →
 R (.int .i64 (-1)) a5)

theorem Q07.up (ab : Option Addr) (aa a7 a5 : Nat) (a9 a6 : Array Value) {R : RW} {w : World} (h : Q07.N ab aa a7 a5 a9 a6 R w) : Q07.M ab aa a7 a5 a9 a6 R w := by
  unfold Q07.M
  unfold Q07.N at h
  obtain ⟨I0, m4, h0, h⟩ := h
  refine ⟨I0, m4, h0, fun m5 ag t3 hI => ?_⟩
  have h := h m5 ag t3 hI
  refine bif_fo (fun c7 => ?_) (fun c7 => ?_)
  ·have h := h.2 (Int.not_lt.1 (of_decide_eq_false c7))
   exact h
  have h := h.1 (of_decide_eq_true c7)
  obtain ⟨a8, ae, h⟩ := h
  refine Q05 ae ?_
  obtain ⟨am, af, h⟩ := h
  refine ⟨am, af, ?_⟩
  obtain ⟨a0, a2, a3, a1, ak, h⟩ := h
  refine ⟨a0, a2, a3, a1, ak, ?_⟩
  obtain ⟨hen, h⟩ := h
  refine bif_tt hen ?_
  refine h.mono fun ac ai h => ?_
  obtain ⟨ad, he, h⟩ := h
  refine ⟨ad, he, ?_⟩
  refine bif_of (fun a4 => ?_) (fun a4 => ?_)
  ·have h := h.1 a4
   exact h
  have h := h.2 a4
  obtain ⟨al, aj, h⟩ := h
  try rw [w64 al aj]
  obtain ⟨ah, hk, h⟩ := h
  exact ⟨ah, hk, h⟩

theorem Q07.go (a4 : Option Addr) (a2 a3 a0 : Nat) (a1 a5 : Array Value) {R : RW} {w : World} (h : Q07.N a4 a2 a3 a0 a1 a5 R w) : Calls Try.prog 58 #[.slice a4 a2 a3, .func (.func a0) a1 a5] w fun e w' => ∃ v, e = .returned v ∧ R v w' := Q07.ok a4 a2 a3 a0 a1 a5 (Q07.up a4 a2 a3 a0 a1 a5 h)
theorem Q07.run (a4 : Option Addr) (a2 a3 a0 : Nat) (a1 a5 : Array Value) {V : Value} {Q : World → Prop} {w : World} (h : Q07.N a4 a2 a3 a0 a1 a5 (fun v w' => v = V ∧ Q w') w) : Calls Try.prog 58 #[.slice a4 a2 a3, .func (.func a0) a1 a5] w (Ret V Q) := (Q07.go a4 a2 a3 a0 a1 a5 h).mono fun e w' ⟨v, he, hv, hq⟩ => ⟨by rw [he, hv], hq⟩

abbrev Q0l.J1 (ar : Int) (au a6 : Addr) (R : RW) (ao : World) : Prop :=
 thenW (ao.drew) fun a8 =>
 ∃ (ae : Option Addr), a8.cell? a6 = some (.pointer ae) ∧
 ∃ (af : Option Addr), a8.cell? a6 = some (.pointer af) ∧
 af.elim False fun ak =>
 ∃ (a1 : Option Addr) (a2 a0 : Nat), a8.cell? (ak.add 4) = some (.slice a1 a2 a0) ∧
 ∃ (aa : Option Addr) (ab a9 : Nat), a8.cell? (au.add 5) = some (.slice aa ab a9) ∧
 Calls Try.prog 60 #[.slice aa ab a9] a8 fun an a7 => ∃ (a4 : Option Addr) (a3 a5 : Nat), an = .returned (.slice a4 a3 a5) ∧
 a7.cell? (ak.add 4) = some (.slice a1 a2 a0) ∧
 a7.cell? a6 = some (.pointer af) ∧
 a7.cell? a6 = some (.pointer ae) ∧
 thenW (a7.alloc (.cells #[.slice a4 a3 a5] 25)) fun ad =>
 ad.cell? (ak.add 4) = some (.slice a1 a2 a0) ∧
 ad.cell? a6 = some (.pointer af) ∧
 ad.cell? a6 = some (.pointer ae) ∧
 ∃ (ai : Option Addr) (ag ah : Nat) (ac : World), (Builtin.append_ #[59, 59] 59 #[.slice a1 a2 a0, .slice (some (blk a7.heap.size)) 1 1]).run Try.prog ad = .ok (.slice ai ag ah) ac ∧
 ac.cell? a6 = some (.pointer ae) ∧
 ae.elim False fun am =>
 Q0d ac ((am.add 4).add 0) ∧
 thenW (ac.setCell ((am.add 4).add 0) (.slice ai ag ah)) fun aj =>
 ∃ (al : Option Addr), aj.cell? a6 = some (.pointer al) ∧
 Calls Try.prog 61 #[.pointer al] aj fun ap aq => ap = .returned (.tuple #[]) ∧
 R (.int .i64 ar) aq

abbrev Q0l.J2 (ah ai : Int) (ag a6 : Addr) (R : RW) (af : World) : Prop :=
 thenW (af.drew) fun a3 =>
 ∃ (a7 : Option Addr), a3.cell? a6 = some (.pointer a7) ∧
 ∃ (ab : Option Addr), a3.cell? a6 = some (.pointer ab) ∧
 ab.elim False fun ad =>
 ∃ (a0 : Option Addr) (a1 a2 : Nat), a3.cell? (ad.add 3) = some (.slice a0 a1 a2) ∧
 thenW (a3.alloc (.cells #[.int .u64 ai] 36)) fun a5 =>
 a5.cell? (ad.add 3) = some (.slice a0 a1 a2) ∧
 a5.cell? a6 = some (.pointer ab) ∧
 a5.cell? a6 = some (.pointer a7) ∧
 ∃ (a8 : Option Addr) (aa a9 : Nat) (a4 : World), (Builtin.append_ #[22, 22] 22 #[.slice a0 a1 a2, .slice (some (blk a3.heap.size)) 1 1]).run Try.prog a5 = .ok (.slice a8 aa a9) a4 ∧
 a4.cell? a6 = some (.pointer a7) ∧
 a7.elim False fun ae =>
 Q0d a4 ((ae.add 3).add 0) ∧
 thenW (a4.setCell ((ae.add 3).add 0) (.slice a8 aa a9)) fun ac =>
 Q0l.J1 ah ag a6 R ac

abbrev Q0l.J3 (ah ad : Addr) (R : RW) (ac : World) : Prop :=
 ∃ (a6 : Option Addr) (a7 a4 : Nat), ac.cell? (ah.add 4) = some (.slice a6 a7 a4) ∧
 Calls Try.prog 58 #[.slice a6 a7 a4, .func (.func 57) #[] #[.pointer (some ad)]] ac fun aj ae => ∃ (a0 : Int), aj = .returned (.int .i64 a0) ∧
 bif decide (a0 ≥ 0) then (
 thenW (ae.drew) fun a9 =>
 ∃ (an : Option Addr), a9.cell? ad = some (.pointer an) ∧
 an.elim False fun aq =>
 ∃ (am : Option Addr), a9.cell? (aq.add 0) = some (.pointer am) ∧
 ∃ (al : Option Addr), a9.cell? ad = some (.pointer al) ∧
 al.elim False fun ap =>
 ∃ (a2 : Int), a9.cell? (ap.add 2) = some (.int .u64 a2) ∧
 ∃ (a3 : Option Addr) (a5 aa : Nat), a9.cell? (ah.add 4) = some (.slice a3 a5 aa) ∧
 a3.elim False fun ao =>
 0 ≤ (a0 : Int) ∧ (a0 : Int) < (a5 : Int) ∧
 ∃ (ag : Option Addr) (ab af : Nat), a9.cell? ((ao.add (Int.toNat a0 * 2)).add 1) = some (.slice ag ab af) ∧
 Calls Try.prog 59 #[.pointer am, .int .u64 a2, .slice ag ab af] a9 fun ak ai => ∃ (a8 a1 : Int), ak = .returned (.tuple #[.int .u64 a8, .int .i64 a1]) ∧
 Q0l.J2 a1 a8 ah ad R ai) else (
 Q0l.J2 11 0 ah ad R ae)

def Q0l.M (r1 : Option Addr) (ao aq ah aj : Int) (ae : Option Addr) (af ab : Nat) (al : Option Addr) (am an : Nat) (R : RW) (w : World) : Prop :=
 thenW (w.alloc (.cells #[.pointer r1] 34)) fun ar =>
 thenW (ar.alloc (.cells #[.int .i64 ao, .int .i64 aq, .int .u64 ah, .int .i64 aj, .slice ae af ab, .slice al am an] 72)) fun ap =>
 ∃ (av : Option Addr), ap.cell? (blk w.heap.size) = some (.pointer av) ∧
 bif Option.isNone av then (
 R (.int .i64 23) ap) else (
 ∃ (ac : Int), ap.cell? ((blk ar.heap.size).add 0) = some (.int .i64 ac) ∧
 bif ac != 3 then (
 R (.int .i64 1) ap) else (
 ∃ (a6 ad a0 a4 : Int) (a2 : Option Addr) (a3 a1 : Nat) (a7 : Option Addr) (a9 a5 : Nat), cellsAt ap (blk ar.heap.size) [.int .i64 a6, .int .i64 ad, .int .u64 a0, .int .i64 a4, .slice a2 a3 a1, .slice a7 a9 a5] 0 ∧
 Calls Try.prog 50 #[.agg #[.int .i64 a6, .int .i64 ad, .int .u64 a0, .int .i64 a4, .slice a2 a3 a1, .slice a7 a9 a5]] ap fun au ag => ∃ (aa : Bool), au = .returned (.bool aa) ∧
 bif !aa then (
 R (.int .i64 1) ag) else (
 ∃ (aw : Option Addr), ag.cell? (blk w.heap.size) = some (.pointer aw) ∧
 aw.elim False fun ax =>
 ∃ (ak : Option Addr) (a8 ai : Nat), ag.cell? (ax.add 3) = some (.slice ak a8 ai) ∧
 bif decide ((a8 : Int) ≥ 20) then (
 R (.int .i64 3) ag) else (
 Q0l.J3 (blk ar.heap.size) (blk w.heap.size) R ag))))

theorem Q0l.ok (r1 : Option Addr) (a7 a9 a3 a4 : Int) (a2 : Option Addr) (a0 a1 : Nat) (a6 : Option Addr) (a8 a5 : Nat) {R : RW} {w : World} (h : Q0l.M r1 a7 a9 a3 a4 a2 a0 a1 a6 a8 a5 R w) : Calls Try.prog 25 #[.pointer r1, .agg #[.int .i64 a7, .int .i64 a9, .int .u64 a3, .int .i64 a4, .slice a2 a0 a1, .slice a6 a8 a5]] w fun e w' => ∃ v, e = .returned v ∧ R v w' :=
  Q0i follows (H := []) (args := [.pointer r1, .agg #[.int .i64 a7, .int .i64 a9, .int .u64 a3, .int .i64 a4, .slice a2 a0 a1, .slice a6 a8 a5]]) (cast (by kernel_rfl) h)

def Q0l.N (r1 : Option Addr) (b4 ca bb be : Int) (ac : Option Addr) (ad au : Nat) (b2 : Option Addr) (b0 b1 : Nat) (R : RW) (w : World) : Prop :=
 ∀ (bo : World) (q9 : Nat), Ext no w bo → Blk bo q9 34 [.pointer r1] → w.heap.size ≤ q9 → q9 < bo.heap.size →
 ∃ (cs : Option Addr), bo.cell? (blk q9) = some (.pointer cs) ∧
 (cs = none →
 ∀ (af : World), Ext no bo af →
 R (.int .i64 23) af) ∧
 (cs ≠ none →
 (b4 ≠ 3 →
 ∀ (af : World), Ext no bo af →
 R (.int .i64 1) af) ∧
 (b4 = 3 →
 ∀ (af : World) (bu : Nat), Ext no bo af → Priv bo af [bu] →
 Calls Try.prog 50 #[.agg #[.int .i64 b4, .int .i64 ca, .int .u64 bb, .int .i64 be, .slice ac ad au, .slice b2 b0 b1]] af fun cu b5 => ∃ (ak : Bool), cu = .returned (.bool ak) ∧
 Keep [bu] af b5 ∧
 (ak = false →
 R (.int .i64 1) b5) ∧
 (ak = true →
 ∃ (d5 : Option Addr), b5.cell? (blk q9) = some (.pointer d5) ∧
 ∃ d0 : Addr, d5 = some d0 ∧
 ∃ (bh : Option Addr) (an bj : Nat), b5.cell? (d0.add 3) = some (.slice bh an bj) ∧
 ((an : Int) ≥ 20 →
 R (.int .i64 3) b5) ∧
 ((an : Int) < 20 →
 Calls Try.prog 58 #[.slice ac ad au, .func (.func 57) #[] #[.pointer (some (blk q9))]] b5 fun cx a5 => ∃ (a0 : Int), cx = .returned (.int .i64 a0) ∧
 Keep [bu] b5 a5 ∧
 (a0 ≥ 0 →
 ∃ (d4 : Option Addr), a5.cell? (blk q9) = some (.pointer d4) ∧
 ∃ d2 : Addr, d4 = some d2 ∧
 ∃ (d6 : Option Addr), a5.cell? (d2.add 0) = some (.pointer d6) ∧
 ∃ (d7 : Option Addr), a5.cell? (blk q9) = some (.pointer d7) ∧
 ∃ d3 : Addr, d7 = some d3 ∧
 ∃ (aq : Int), a5.cell? (d3.add 2) = some (.int .u64 aq) ∧
 ∃ d8 : Addr, ac = some d8 ∧
 0 ≤ (a0 : Int) ∧ (a0 : Int) < (ad : Int) ∧
 ∃ (cd : Option Addr) (c6 c3 : Nat), a5.cell? ((d8.add (Int.toNat a0 * 2)).add 1) = some (.slice cd c6 c3) ∧
 ∀ (c0 : World), Ext no a5 c0 →
 Calls Try.prog 59 #[.pointer d6, .int .u64 aq, .slice cd c6 c3] c0 fun cr b8 => ∃ (ao az : Int), cr = .returned (.tuple #[.int .u64 ao, .int .i64 az]) ∧
 Keep [bu] c0 b8 ∧
 ∃ (co : Option Addr), b8.cell? (blk q9) = some (.pointer co) ∧
 ∃ (ct : Option Addr), b8.cell? (blk q9) = some (.pointer ct) ∧
 ∃ cq : Addr, ct = some cq ∧
 ∃ (aj : Option Addr) (am al : Nat), b8.cell? (cq.add 3) = some (.slice aj am al) ∧
 ∀ (ay : World) (cj : Nat), Ext no b8 ay → Blk ay cj 36 [.int .u64 ao] → b8.heap.size ≤ cj → cj < ay.heap.size →
 ay.cell? (cq.add 3) = some (.slice aj am al) ∧
 ay.cell? (blk q9) = some (.pointer ct) ∧
 ay.cell? (blk q9) = some (.pointer co) ∧
 ∃ (c7 : Option Addr) (cc ch : Nat) (bc : World), (Builtin.append_ #[22, 22] 22 #[.slice aj am al, .slice (some (blk cj)) 1 1]).run Try.prog ay = .ok (.slice c7 cc ch) bc ∧
 Keep [bu] ay bc ∧
 bc.cell? (blk q9) = some (.pointer co) ∧
 ∃ cn : Addr, co = some cn ∧
 Q0d bc ((cn.add 3).add 0) ∧
 (∀ p ∈ [bu], p ≠ Addr.block (cn.add 3)) ∧
 thenW (bc.setCell ((cn.add 3).add 0) (.slice c7 cc ch)) fun bm =>
 ∃ (c9 : Option Addr), bm.cell? (blk q9) = some (.pointer c9) ∧
 ∃ (cl : Option Addr), bm.cell? (blk q9) = some (.pointer cl) ∧
 ∃ ck : Addr, cl = some ck ∧
 ∃ (a8 : Option Addr) (a7 a6 : Nat), bm.cell? (ck.add 4) = some (.slice a8 a7 a6) ∧
 ∀ (cb : World), Ext no bm cb →
 Calls Try.prog 60 #[.slice b2 b0 b1] cb fun cw b9 => ∃ (ap : Option Addr) (aw ax : Nat), cw = .returned (.slice ap aw ax) ∧
 b9.cell? (ck.add 4) = some (.slice a8 a7 a6) ∧
 b9.cell? (blk q9) = some (.pointer cl) ∧
 b9.cell? (blk q9) = some (.pointer c9) ∧
 ∀ (b3 : World) (cm : Nat), Ext no b9 b3 → Blk b3 cm 25 [.slice ap aw ax] → b9.heap.size ≤ cm → cm < b3.heap.size →
 b3.cell? (ck.add 4) = some (.slice a8 a7 a6) ∧
 b3.cell? (blk q9) = some (.pointer cl) ∧
 b3.cell? (blk q9) = some (.pointer c9) ∧
 ∃ (c5 : Option Addr) (cg c8 : Nat) (bg : World), (Builtin.append_ #[59, 59] 59 #[.slice a8 a7 a6, .slice (some (blk cm)) 1 1]).run Try.prog b3 = .ok (.slice c5 cg c8) bg ∧
 bg.cell? (blk q9) = some (.pointer c9) ∧
 ∃ cy : Addr, c9 = some cy ∧
 Q0d bg ((cy.add 4).add 0) ∧
 thenW (bg.setCell ((cy.add 4).add 0) (.slice c5 cg c8)) fun c4 =>
 ∃ (d1 : Option Addr), c4.cell? (blk q9) = some (.pointer d1) ∧
 Calls Try.prog 61 #[.pointer d1] c4 fun cz cv => cz = .returned (.tuple #[]) ∧
 R (.int .i64 az) cv) ∧
 (a0 < 0 →
 ∃ (cp : Option Addr), a5.cell? (blk q9) = some (.pointer cp) ∧
 ∃ (c1 : Option Addr), a5.cell? (blk q9) = some (.pointer c1) ∧
 ∃ bz : Addr, c1 = some bz ∧
 ∃ (a9 : Option Addr) (ab aa : Nat), a5.cell? (bz.add 3) = some (.slice a9 ab aa) ∧
 ∀ (a4 : World) (bd : Nat), Ext no a5 a4 → Blk a4 bd 36 [.int .u64 0] → a5.heap.size ≤ bd → bd < a4.heap.size →
 a4.cell? (bz.add 3) = some (.slice a9 ab aa) ∧
 a4.cell? (blk q9) = some (.pointer c1) ∧
 a4.cell? (blk q9) = some (.pointer cp) ∧
 ∃ (br : Option Addr) (bw bt : Nat) (ar : World), (Builtin.append_ #[22, 22] 22 #[.slice a9 ab aa, .slice (some (blk bd)) 1 1]).run Try.prog a4 = .ok (.slice br bw bt) ar ∧
 Keep [bu] a4 ar ∧
 ar.cell? (blk q9) = some (.pointer cp) ∧
 ∃ bf : Addr, cp = some bf ∧
 Q0d ar ((bf.add 3).add 0) ∧
 (∀ p ∈ [bu], p ≠ Addr.block (bf.add 3)) ∧
 thenW (ar.setCell ((bf.add 3).add 0) (.slice br bw bt)) fun b6 =>
 ∃ (ba : Option Addr), b6.cell? (blk q9) = some (.pointer ba) ∧
 ∃ (bl : Option Addr), b6.cell? (blk q9) = some (.pointer bl) ∧
 ∃ bk : Addr, bl = some bk ∧
 ∃ (a1 : Option Addr) (a2 a3 : Nat), b6.cell? (bk.add 4) = some (.slice a1 a2 a3) ∧
 ∀ (bq : World), Ext no b6 bq →
 Calls Try.prog 60 #[.slice b2 b0 b1] bq fun c2 av => ∃ (ag : Option Addr) (ah ai : Nat), c2 = .returned (.slice ag ah ai) ∧
 av.cell? (bk.add 4) = some (.slice a1 a2 a3) ∧
 av.cell? (blk q9) = some (.pointer bl) ∧
 av.cell? (blk q9) = some (.pointer ba) ∧
 ∀ (ae : World) (bi : Nat), Ext no av ae → Blk ae bi 25 [.slice ag ah ai] → av.heap.size ≤ bi → bi < ae.heap.size →
 ae.cell? (bk.add 4) = some (.slice a1 a2 a3) ∧
 ae.cell? (blk q9) = some (.pointer bl) ∧
 ae.cell? (blk q9) = some (.pointer ba) ∧
 ∃ (bv : Option Addr) (bn bs : Nat) (b7 : World), (Builtin.append_ #[59, 59] 59 #[.slice a1 a2 a3, .slice (some (blk bi)) 1 1]).run Try.prog ae = .ok (.slice bv bn bs) b7 ∧
 b7.cell? (blk q9) = some (.pointer ba) ∧
 ∃ bx : Addr, ba = some bx ∧
 Q0d b7 ((bx.add 4).add 0) ∧
 thenW (b7.setCell ((bx.add 4).add 0) (.slice bv bn bs)) fun bp =>
 ∃ (cf : Option Addr), bp.cell? (blk q9) = some (.pointer cf) ∧
 Calls Try.prog 61 #[.pointer cf] bp fun ci ce => ci = .returned (.tuple #[]) ∧
 R (.int .i64 11) ce)))))

theorem Q0l.up (r1 : Option Addr) (a9 aq a7 a8 : Int) (a2 : Option Addr) (a3 a1 : Nat) (a6 : Option Addr) (a4 a5 : Nat) {R : RW} {w : World} (h : Q0l.N r1 a9 aq a7 a8 a2 a3 a1 a6 a4 a5 R w) : Q0l.M r1 a9 aq a7 a8 a2 a3 a1 a6 a4 a5 R w := by
  unfold Q0l.M
  unfold Q0l.N at h
  refine Q01 fun ce e8 => ?_
  have h := h ce w.heap.size ((Ext.refl no w).x_alloc e8) (Blk.of_new e8) ((Ext.refl no w)).size (Q0x e8)
  refine Q01 fun bd ek => ?_
  have a0 := Blk.of_new ek
  have er := ((Ext.refl no ce)).size
  have b5 := (Ext.refl no ce).x_alloc ek
  obtain ⟨eu, ea, h⟩ := h
  refine ⟨eu, (b5).cell ea id, ?_⟩
  refine bif_of (fun dd => ?_) (fun dd => ?_)
  ·have h := h.1 (Q1B dd)
   have h := h bd b5
   exact h
  have h := h.2 (Q1C dd)
  refine ⟨a9, a0.celli 0 rfl rfl, ?_⟩
  refine bif_of (fun cq => ?_) (fun cq => ?_)
  ·have h := h.1 (bne_t cq)
   have h := h bd b5
   exact h
  have h := h.2 (bne_f cq)
  refine ⟨a9, aq, a7, a8, a2, a3, a1, a6, a4, a5, ⟨a0.celli 0 rfl rfl, a0.celli 1 rfl rfl, a0.celli 2 rfl rfl, a0.celli 3 rfl rfl, a0.celli 4 rfl rfl, a0.celli 5 rfl rfl, trivial⟩, ?_⟩
  have h := h bd (ce.heap.size) b5 (Priv.cons er a0.lt Priv.nil)
  refine h.mono fun f0 fc h => ?_
  obtain ⟨b0, he, hk, h⟩ := h
  refine ⟨b0, he, ?_⟩
  have a0 := hk.blk a0 (by simp)
  refine bif_of (fun d3 => ?_) (fun d3 => ?_)
  ·have h := h.1 (not_t d3)
   exact h
  have h := h.2 (not_f d3)
  obtain ⟨f4, d4, h⟩ := h
  refine ⟨f4, d4, ?_⟩
  obtain ⟨fd, dv, h⟩ := h
  refine Q05 dv ?_
  obtain ⟨b1, ba, b8, ck, h⟩ := h
  refine ⟨b1, ba, b8, ck, ?_⟩
  refine bif_of (fun cn => ?_) (fun cn => ?_)
  ·have h := h.1 (of_decide_eq_true cn)
   exact h
  have h := h.2 (Int.not_le.1 (of_decide_eq_false cn))
  unfold Q0l.J3
  refine ⟨a2, a3, a1, a0.celli 4 rfl rfl, ?_⟩
  refine h.mono fun f5 c5 h => ?_
  obtain ⟨aa, he, hk, h⟩ := h
  refine ⟨aa, he, ?_⟩
  have a0 := hk.blk a0 (by simp)
  refine bif_fo (fun dw => ?_) (fun dw => ?_)
  ·have h := h.2 (Int.not_le.1 (of_decide_eq_false dw))
   unfold Q0l.J2
   refine Q01 fun dt ei => ?_
   have ag := (Ext.refl no c5).x_drew ei
   have a0 := a0.x_drew ei
   obtain ⟨fb, dz, h⟩ := h
   refine ⟨fb, (ag).cell dz id, ?_⟩
   obtain ⟨e4, d6, h⟩ := h
   refine ⟨e4, (ag).cell d6 id, ?_⟩
   obtain ⟨ey, cb, h⟩ := h
   refine Q05 cb ?_
   obtain ⟨ai, ar, ao, bz, h⟩ := h
   refine ⟨ai, ar, ao, (ag).cell bz id, ?_⟩
   refine Q01 fun bg b7 => ?_
   have a0 := a0.x_alloc b7
   have h := h bg dt.heap.size (ag.x_alloc b7) (Blk.of_new b7) (ag).size (Q0x b7)
   obtain ⟨cd, c2, bn, h⟩ := h
   refine ⟨cd, c2, bn, ?_⟩
   obtain ⟨bp, c9, c0, bm, hr, hk, h⟩ := h
   refine ⟨bp, c9, c0, bm, hr, ?_⟩
   have a0 := hk.blk a0 (by simp)
   obtain ⟨bq, h⟩ := h
   refine ⟨bq, ?_⟩
   obtain ⟨ep, c7, h⟩ := h
   refine Q05 c7 ?_
   obtain ⟨hcs, hof, h⟩ := h
   refine ⟨hcs, Q01 fun bk be => ?_⟩
   replace h := Q1d h be
   have a0 := a0.off (by rw [Q1a]; exact hof _ (by simp)) be
   unfold Q0l.J1
   refine Q01 fun bo bi => ?_
   have ab := (Ext.refl no bk).x_drew bi
   have a0 := a0.x_drew bi
   obtain ⟨d9, bl, h⟩ := h
   refine ⟨d9, (ab).cell bl id, ?_⟩
   obtain ⟨df, ca, h⟩ := h
   refine ⟨df, (ab).cell ca id, ?_⟩
   obtain ⟨ez, bv, h⟩ := h
   refine Q05 bv ?_
   obtain ⟨ah, ap, au, bw, h⟩ := h
   refine ⟨ah, ap, au, (ab).cell bw id, ?_⟩
   refine ⟨a6, a4, a5, a0.celli 5 rfl rfl, ?_⟩
   have h := h bo ab
   refine h.mono fun ec am h => ?_
   obtain ⟨ac, ad, ae, he, h⟩ := h
   refine ⟨ac, ad, ae, he, ?_⟩
   obtain ⟨br, bx, bj, h⟩ := h
   refine ⟨br, bx, bj, ?_⟩
   refine Q01 fun cc bc => ?_
   have h := h cc am.heap.size ((Ext.refl no am).x_alloc bc) (Blk.of_new bc) ((Ext.refl no am)).size (Q0x bc)
   obtain ⟨bh, c4, bs, h⟩ := h
   refine ⟨bh, c4, bs, ?_⟩
   obtain ⟨c6, bf, bu, c3, hr, h⟩ := h
   refine ⟨c6, bf, bu, c3, hr, ?_⟩
   obtain ⟨c8, h⟩ := h
   refine ⟨c8, ?_⟩
   obtain ⟨eo, c1, h⟩ := h
   refine Q05 c1 ?_
   obtain ⟨hcs, h⟩ := h
   refine ⟨hcs, Q01 fun ee da => ?_⟩
   replace h := Q1d h da
   obtain ⟨dr, bt, h⟩ := h
   refine ⟨dr, bt, ?_⟩
   refine h.mono fun el eg h => ?_
   obtain ⟨he, h⟩ := h
   refine ⟨he, ?_⟩
   exact h
  have h := h.1 (of_decide_eq_true dw)
  refine Q01 fun e2 ej => ?_
  have af := (Ext.refl no c5).x_drew ej
  have a0 := a0.x_drew ej
  obtain ⟨f1, e3, h⟩ := h
  refine ⟨f1, (af).cell e3 id, ?_⟩
  obtain ⟨ff, d1, h⟩ := h
  refine Q05 d1 ?_
  obtain ⟨f6, dp, h⟩ := h
  refine ⟨f6, (af).cell dp id, ?_⟩
  obtain ⟨fa, e7, h⟩ := h
  refine ⟨fa, (af).cell e7 id, ?_⟩
  obtain ⟨fh, dc, h⟩ := h
  refine Q05 dc ?_
  obtain ⟨al, cu, h⟩ := h
  refine ⟨al, (af).cell cu id, ?_⟩
  refine ⟨a2, a3, a1, a0.celli 4 rfl rfl, ?_⟩
  obtain ⟨fk, di, h⟩ := h
  refine Q05 di ?_
  obtain ⟨f7, em, h⟩ := h
  refine ⟨f7, em, ?_⟩
  obtain ⟨de, cx, ci, du, h⟩ := h
  refine ⟨de, cx, ci, (af).cell du id, ?_⟩
  have h := h e2 af
  refine h.mono fun et cr h => ?_
  obtain ⟨aj, ax, he, hk, h⟩ := h
  refine ⟨aj, ax, he, ?_⟩
  have a0 := hk.blk a0 (by simp)
  unfold Q0l.J2
  refine Q01 fun dn ed => ?_
  have aw := (Ext.refl no cr).x_drew ed
  have a0 := a0.x_drew ed
  obtain ⟨f8, cg, h⟩ := h
  refine ⟨f8, (aw).cell cg id, ?_⟩
  obtain ⟨ex, e6, h⟩ := h
  refine ⟨ex, (aw).cell e6 id, ?_⟩
  obtain ⟨fe, dk, h⟩ := h
  refine Q05 dk ?_
  obtain ⟨ay, b9, b6, co, h⟩ := h
  refine ⟨ay, b9, b6, (aw).cell co id, ?_⟩
  refine Q01 fun dj cf => ?_
  have a0 := a0.x_alloc cf
  have h := h dj dn.heap.size (aw.x_alloc cf) (Blk.of_new cf) (aw).size (Q0x cf)
  obtain ⟨cw, eb, dh, h⟩ := h
  refine ⟨cw, eb, dh, ?_⟩
  obtain ⟨cy, db, e5, dx, hr, hk, h⟩ := h
  refine ⟨cy, db, e5, dx, hr, ?_⟩
  have a0 := hk.blk a0 (by simp)
  obtain ⟨e9, h⟩ := h
  refine ⟨e9, ?_⟩
  obtain ⟨fi, ch, h⟩ := h
  refine Q05 ch ?_
  obtain ⟨hcs, hof, h⟩ := h
  refine ⟨hcs, Q01 fun dg ef => ?_⟩
  replace h := Q1d h ef
  have a0 := a0.off (by rw [Q1a]; exact hof _ (by simp)) ef
  unfold Q0l.J1
  refine Q01 fun d7 eh => ?_
  have b4 := (Ext.refl no dg).x_drew eh
  have a0 := a0.x_drew eh
  obtain ⟨ew, d0, h⟩ := h
  refine ⟨ew, (b4).cell d0 id, ?_⟩
  obtain ⟨ev, e1, h⟩ := h
  refine ⟨ev, (b4).cell e1 id, ?_⟩
  obtain ⟨fg, d5, h⟩ := h
  refine Q05 d5 ?_
  obtain ⟨b3, b2, az, ct, h⟩ := h
  refine ⟨b3, b2, az, (b4).cell ct id, ?_⟩
  refine ⟨a6, a4, a5, a0.celli 5 rfl rfl, ?_⟩
  have h := h d7 b4
  refine h.mono fun f3 bb h => ?_
  obtain ⟨ak, an, av, he, h⟩ := h
  refine ⟨ak, an, av, he, ?_⟩
  obtain ⟨e0, dq, cj, h⟩ := h
  refine ⟨e0, dq, cj, ?_⟩
  refine Q01 fun dm d8 => ?_
  have h := h dm bb.heap.size ((Ext.refl no bb).x_alloc d8) (Blk.of_new d8) ((Ext.refl no bb)).size (Q0x d8)
  obtain ⟨cl, cm, cs, h⟩ := h
  refine ⟨cl, cm, cs, ?_⟩
  obtain ⟨cv, ds, cz, cp, hr, h⟩ := h
  refine ⟨cv, ds, cz, cp, hr, ?_⟩
  obtain ⟨dy, h⟩ := h
  refine ⟨dy, ?_⟩
  obtain ⟨fj, d2, h⟩ := h
  refine Q05 d2 ?_
  obtain ⟨hcs, h⟩ := h
  refine ⟨hcs, Q01 fun en es => ?_⟩
  replace h := Q1d h es
  obtain ⟨eq, dl, h⟩ := h
  refine ⟨eq, dl, ?_⟩
  refine h.mono fun f9 f2 h => ?_
  obtain ⟨he, h⟩ := h
  refine ⟨he, ?_⟩
  exact h

theorem Q0l.go (r1 : Option Addr) (a7 a9 a3 a4 : Int) (a2 : Option Addr) (a0 a1 : Nat) (a6 : Option Addr) (a8 a5 : Nat) {R : RW} {w : World} (h : Q0l.N r1 a7 a9 a3 a4 a2 a0 a1 a6 a8 a5 R w) : Calls Try.prog 25 #[.pointer r1, .agg #[.int .i64 a7, .int .i64 a9, .int .u64 a3, .int .i64 a4, .slice a2 a0 a1, .slice a6 a8 a5]] w fun e w' => ∃ v, e = .returned v ∧ R v w' := Q0l.ok r1 a7 a9 a3 a4 a2 a0 a1 a6 a8 a5 (Q0l.up r1 a7 a9 a3 a4 a2 a0 a1 a6 a8 a5 h)
theorem Q0l.run (r1 : Option Addr) (a7 a9 a3 a4 : Int) (a2 : Option Addr) (a0 a1 : Nat) (a6 : Option Addr) (a8 a5 : Nat) {V : Value} {Q : World → Prop} {w : World} (h : Q0l.N r1 a7 a9 a3 a4 a2 a0 a1 a6 a8 a5 (fun v w' => v = V ∧ Q w') w) : Calls Try.prog 25 #[.pointer r1, .agg #[.int .i64 a7, .int .i64 a9, .int .u64 a3, .int .i64 a4, .slice a2 a0 a1, .slice a6 a8 a5]] w (Ret V Q) := (Q0l.go r1 a7 a9 a3 a4 a2 a0 a1 a6 a8 a5 h).mono fun e w' ⟨v, he, hv, hq⟩ => ⟨by rw [he, hv], hq⟩

abbrev Q0V.J1 (aj : Option Addr) (ah af : Nat) (ag : Addr) (ac ad : Int) (I0 : Nat → List Value → World → Prop) (ae : Addr) (ai : Nat) (R : RW) (a3 : World) : Prop :=
 ∃ (a0 : Option Addr) (a1 a2 : Nat), a3.cell? (ae.add 4) = some (.slice a0 a1 a2) ∧
 ∃ (a4 : Int), a3.cell? (ag.add 0) = some (.int .i64 a4) ∧
 thenW (a3.alloc (.cells #[.int .i64 a4, .slice aj ah af] 115)) fun a9 =>
 ∃ (a8 : Option Addr) (a7 a6 : Nat) (a5 : World), (Builtin.append_ #[70, 70] 70 #[.slice a0 a1 a2, .slice (some (blk a3.heap.size)) 1 1]).run Try.prog a9 = .ok (.slice a8 a7 a6) a5 ∧
 Q0d a5 ((ae.add 4).add 0) ∧
 thenW (a5.setCell ((ae.add 4).add 0) (.slice a8 a7 a6)) fun ab =>
 ∃ aa, aa < ai ∧ I0 aa [.int .u64 ac, .int .i64 (IntKind.i64.wrap (ad + 1))] ab

abbrev Q0V.J2 (aw aq : Int) (I0 : Nat → List Value → World → Prop) (av : Addr) (ax : Option Addr) (az : Nat) (am : Option Addr) (al : Nat) (R : RW) (ai : World) : Prop :=
 am.elim False fun ay =>
 0 ≤ (aq : Int) ∧ (aq : Int) < (al : Int) ∧
 ∃ (aj a9 af ak ab : Int), cellsAt ai (ay.add (Int.toNat aq * 5)) [.int .i64 aj, .int .u64 a9, .int .i64 af, .int .i64 ak, .int .i64 ab] 0 ∧
 thenW (ai.alloc (.cells #[.int .i64 0, .int .u64 0, .int .i64 0, .int .i64 0, .int .i64 0] 110)) fun ar =>
 putsK ar (blk ai.heap.size) [.int .i64 aj, .int .u64 a9, .int .i64 af, .int .i64 ak, .int .i64 ab] 0 fun ao =>
 ∃ (aa : Int), ao.cell? ((blk ai.heap.size).add 1) = some (.int .u64 aa) ∧
 Calls Try.prog 41 #[.pointer ax, .int .u64 aa, .int .u64 aw] ao fun au an => ∃ (ah : Option Addr) (ag ae : Nat) (ad : Int), au = .returned (.tuple #[.slice ah ag ae, .int .i64 ad]) ∧
 bif ad != 0 then (
 putsK an av [.int .i64 0, .int .i64 0, .int .u64 0, .int .i64 0, .slice none 0 0, .slice none 0 0] 0 fun ap =>
 ∃ (a8 ac a0 a4 : Int) (a3 : Option Addr) (a1 a2 : Nat) (a5 : Option Addr) (a7 a6 : Nat), cellsAt ap av [.int .i64 a8, .int .i64 ac, .int .u64 a0, .int .i64 a4, .slice a3 a1 a2, .slice a5 a7 a6] 0 ∧
 R (.tuple #[.agg #[.int .i64 a8, .int .i64 ac, .int .u64 a0, .int .i64 a4, .slice a3 a1 a2, .slice a5 a7 a6], .int .u64 0, .int .i64 ad]) ap) else (
 Q0V.J1 ah ag ae (blk ai.heap.size) aw aq I0 av az R an)

abbrev Q0V.J3 (bo : Int) (bw : Option Addr) (bv : Int) (bu ba : Addr) (R : RW) (bd : World) : Prop :=
 ∃ (b5 : Int), bd.cell? (bu.add 1) = some (.int .i64 b5) ∧
 bif decide (b5 ≥ 0) then (
 ∃ (bg : Int), bd.cell? (bu.add 1) = some (.int .i64 bg) ∧
 Calls Try.prog 42 #[.int .i64 (IntKind.i64.wrap (bg + 1))] bd fun bs br => ∃ (av : Option Addr) (ar ax : Nat), bs = .returned (.slice av ar ax) ∧
 Calls Try.prog 43 #[.int .u64 bv] br fun bp bq => ∃ (b1 : Option Addr) (aw b3 : Nat), bp = .returned (.slice b1 aw b3) ∧
 Calls Try.prog 29 #[.pointer bw, .int .u64 bo, .slice av ar ax, .slice b1 aw b3] bq fun bt bn => ∃ (az : Option Addr) (aq ay : Nat) (bj : Int), bt = .returned (.tuple #[.slice az aq ay, .int .i64 bj]) ∧
 Q0d bn ((ba.add 5).add 0) ∧
 thenW (bn.setCell ((ba.add 5).add 0) (.slice az aq ay)) fun bm =>
 ∃ (b7 bh ah b2 : Int) (ad : Option Addr) (af al : Nat) (b6 : Option Addr) (bb bf : Nat), cellsAt bm ba [.int .i64 b7, .int .i64 bh, .int .u64 ah, .int .i64 b2, .slice ad af al, .slice b6 bb bf] 0 ∧
 putsK bm ba [.int .i64 b7, .int .i64 bh, .int .u64 ah, .int .i64 b2, .slice ad af al, .slice b6 bb bf] 0 fun bk =>
 ∃ (ap au a4 a8 : Int) (a7 : Option Addr) (a3 a1 : Nat) (an : Option Addr) (aa ae : Nat), cellsAt bk ba [.int .i64 ap, .int .i64 au, .int .u64 a4, .int .i64 a8, .slice a7 a3 a1, .slice an aa ae] 0 ∧
 R (.tuple #[.agg #[.int .i64 ap, .int .i64 au, .int .u64 a4, .int .i64 a8, .slice a7 a3 a1, .slice an aa ae], .int .u64 bo, .int .i64 0]) bk) else (
 ∃ (b9 bi aj b4 : Int) (ao : Option Addr) (ab ak : Nat) (bc : Option Addr) (b8 be : Nat), cellsAt bd ba [.int .i64 b9, .int .i64 bi, .int .u64 aj, .int .i64 b4, .slice ao ab ak, .slice bc b8 be] 0 ∧
 putsK bd ba [.int .i64 b9, .int .i64 bi, .int .u64 aj, .int .i64 b4, .slice ao ab ak, .slice bc b8 be] 0 fun bl =>
 ∃ (ai b0 a0 a9 : Int) (a2 : Option Addr) (a5 a6 : Nat) (ac : Option Addr) (ag am : Nat), cellsAt bl ba [.int .i64 ai, .int .i64 b0, .int .u64 a0, .int .i64 a9, .slice a2 a5 a6, .slice ac ag am] 0 ∧
 R (.tuple #[.agg #[.int .i64 ai, .int .i64 b0, .int .u64 a0, .int .i64 a9, .slice a2 a5 a6, .slice ac ag am], .int .u64 bo, .int .i64 0]) bl)

abbrev Q0V.J4 (ao az : Addr) (ar : Option Addr) (b2 : Int) (R : RW) (aw : World) : Prop :=
 Calls Try.prog 39 #[.pointer ar] aw fun ax aq => ∃ (ak : Int), ax = .returned (.int .u64 ak) ∧
 Q0d aq ((ao.add 0).add 0) ∧
 thenW (aq.setCell ((ao.add 0).add 0) (.int .i64 3)) fun ap =>
 ∃ (am : Option Addr) (ai al : Nat) (ab : Int), cellsAt ap az [.slice am ai al, .int .i64 ab] 0 ∧
 Calls Try.prog 40 #[.agg #[.slice am ai al, .int .i64 ab]] ap fun ay av => ∃ (af : Option Addr) (ac an : Nat), ay = .returned (.slice af ac an) ∧
 ∃ (I0 : Nat → List Value → World → Prop) (b1 : Nat), I0 b1 [.int .u64 ak, .int .i64 0] av ∧ ∀ (b0 : Nat) (ah : World) (ag au : Int), I0 b0 [.int .u64 ag, .int .i64 au] ah →
 bif decide (au < (ac : Int)) then (
 Q0V.J2 ag au I0 ao ar b0 af ac R ah) else (
 ∃ (ae : Option Addr) (aa ad : Nat), ah.cell? (ao.add 4) = some (.slice ae aa ad) ∧
 bif (aa : Int) == 0 then (
 putsK ah ao [.int .i64 0, .int .i64 0, .int .u64 0, .int .i64 0, .slice none 0 0, .slice none 0 0] 0 fun aj =>
 ∃ (a7 a9 a2 a4 : Int) (a3 : Option Addr) (a0 a1 : Nat) (a8 : Option Addr) (a6 a5 : Nat), cellsAt aj ao [.int .i64 a7, .int .i64 a9, .int .u64 a2, .int .i64 a4, .slice a3 a0 a1, .slice a8 a6 a5] 0 ∧
 R (.tuple #[.agg #[.int .i64 a7, .int .i64 a9, .int .u64 a2, .int .i64 a4, .slice a3 a0 a1, .slice a8 a6 a5], .int .u64 0, .int .i64 10]) aj) else (
 Q0V.J3 ag ar b2 az ao R ah))

def Q0V.M (o1 aq : Option Addr) (ar ap : Nat) (aj am : Int) (R : RW) (w : World) : Prop :=
 thenW (w.alloc (.cells #[.slice aq ar ap, .int .i64 aj] 64)) fun an =>
 thenW (an.alloc (.cells #[.int .i64 0, .int .i64 0, .int .u64 0, .int .i64 0, .slice none 0 0, .slice none 0 0] 72)) fun ao =>
 bif Option.isNone o1 then (
 ∃ (ai ak ae ad : Int) (a7 : Option Addr) (aa a5 : Nat) (ah : Option Addr) (ag af : Nat), cellsAt ao (blk an.heap.size) [.int .i64 ai, .int .i64 ak, .int .u64 ae, .int .i64 ad, .slice a7 aa a5, .slice ah ag af] 0 ∧
 putsK ao (blk an.heap.size) [.int .i64 ai, .int .i64 ak, .int .u64 ae, .int .i64 ad, .slice a7 aa a5, .slice ah ag af] 0 fun al =>
 ∃ (a6 ac a0 a4 : Int) (a1 : Option Addr) (a3 a2 : Nat) (ab : Option Addr) (a9 a8 : Nat), cellsAt al (blk an.heap.size) [.int .i64 a6, .int .i64 ac, .int .u64 a0, .int .i64 a4, .slice a1 a3 a2, .slice ab a9 a8] 0 ∧
 R (.tuple #[.agg #[.int .i64 a6, .int .i64 ac, .int .u64 a0, .int .i64 a4, .slice a1 a3 a2, .slice ab a9 a8], .int .u64 0, .int .i64 23]) al) else (
 Q0V.J4 (blk an.heap.size) (blk w.heap.size) o1 am R ao)

theorem Q0V.ok (o1 a4 : Option Addr) (a3 a2 : Nat) (a0 a1 : Int) {R : RW} {w : World} (h : Q0V.M o1 a4 a3 a2 a0 a1 R w) : Calls Try.prog 21 #[.pointer o1, .agg #[.slice a4 a3 a2, .int .i64 a0], .int .u64 a1] w fun e w' => ∃ v, e = .returned v ∧ R v w' :=
  Q0i follows (H := [(0, [0, 2, 4, 6, 20, 21], [(7, (.one (.int .u64))), (22, (.one (.int .i64)))])]) (args := [.pointer o1, .agg #[.slice a4 a3 a2, .int .i64 a0], .int .u64 a1]) (cast (by kernel_rfl) h)

def Q0V.N (o1 bu : Option Addr) (bx bs : Nat) (a1 bh : Int) (R : RW) (w : World) : Prop :=
 (o1 = none →
 ∀ (c1 : World), Ext no w c1 →
 R (.tuple #[.agg #[.int .i64 0, .int .i64 0, .int .u64 0, .int .i64 0, .slice none 0 0, .slice none 0 0], .int .u64 0, .int .i64 23]) c1) ∧
 (o1 ≠ none →
 ∀ (bp : World) (bb au : Nat), Ext no w bp → Priv w bp [bb, au] →
 Calls Try.prog 39 #[.pointer o1] bp fun bv bk => ∃ (b4 : Int), bv = .returned (.int .u64 b4) ∧
 Keep [bb, au] bp bk ∧
 ∀ (b7 : World), Ext (fun b => b = au) bk b7 →
 Calls Try.prog 40 #[.agg #[.slice bu bx bs, .int .i64 a1]] b7 fun bw bg => ∃ (ax : Option Addr) (a8 b6 : Nat), bw = .returned (.slice ax a8 b6) ∧
 Keep [bb, au] b7 bg ∧
 ∃ (I0 : Nat → List Value → World → Prop) (c5 : Nat), I0 c5 [.int .u64 b4, .int .i64 0, .int .i64 3, .int .i64 0, .int .u64 0, .int .i64 0, .slice none 0 0, .slice none 0 0] bg ∧ ∀ (c2 : Nat) (ak : World) (a7 b0 aa ap a2 a5 : Int) (a4 : Option Addr) (a0 a3 : Nat) (am : Option Addr) (al an : Nat), I0 c2 [.int .u64 a7, .int .i64 b0, .int .i64 aa, .int .i64 ap, .int .u64 a2, .int .i64 a5, .slice a4 a0 a3, .slice am al an] ak →
 (b0 < (a8 : Int) →
 ∃ c4 : Addr, ax = some c4 ∧
 0 ≤ (b0 : Int) ∧ (b0 : Int) < (a8 : Int) ∧
 ∃ (aw a6 az bd av : Int), cellsAt ak (c4.add (Int.toNat b0 * 5)) [.int .i64 aw, .int .u64 a6, .int .i64 az, .int .i64 bd, .int .i64 av] 0 ∧
 ∀ (b3 : World) (c3 : Nat), Ext no ak b3 → Priv ak b3 [c3] →
 Calls Try.prog 41 #[.pointer o1, .int .u64 a6, .int .u64 a7] b3 fun bz b2 => ∃ (ao : Option Addr) (aq ar : Nat) (a9 : Int), bz = .returned (.tuple #[.slice ao aq ar, .int .i64 a9]) ∧
 Keep [bb, au, c3] b3 b2 ∧
 (a9 ≠ 0 →
 ∀ (ba : World), Ext (fun b => b = au) b2 ba →
 R (.tuple #[.agg #[.int .i64 0, .int .i64 0, .int .u64 0, .int .i64 0, .slice none 0 0, .slice none 0 0], .int .u64 0, .int .i64 a9]) ba) ∧
 (a9 = 0 →
 ∀ (ay : World) (bo : Nat), Ext no b2 ay → Blk ay bo 115 [.int .i64 aw, .slice ao aq ar] → b2.heap.size ≤ bo → bo < ay.heap.size →
 ∃ (bn : Option Addr) (bi bl : Nat) (b9 : World), (Builtin.append_ #[70, 70] 70 #[.slice a4 a0 a3, .slice (some (blk bo)) 1 1]).run Try.prog ay = .ok (.slice bn bi bl) b9 ∧
 Keep [bb, au] ay b9 ∧
 (-9223372036854775808 : Int) ≤ (b0 + 1) ∧ (b0 + 1) < 9223372036854775808 ∧
 ∀ (be : World), Ext (fun b => b = au) b9 be →
 ∃ c0, c0 < c2 ∧ I0 c0 [.int .u64 a7, .int .i64 (b0 + 1), .int .i64 aa, .int .i64 ap, .int .u64 a2, .int .i64 a5, .slice bn bi bl, .slice am al an] be)) ∧
 ((a8 : Int) ≤ b0 →
 ((a0 : Int) = 0 →
 ∀ (bf : World), Ext (fun b => b = au) ak bf →
 R (.tuple #[.agg #[.int .i64 0, .int .i64 0, .int .u64 0, .int .i64 0, .slice none 0 0, .slice none 0 0], .int .u64 0, .int .i64 10]) bf) ∧
 ((a0 : Int) ≠ 0 →
 (a1 ≥ 0 →
 (-9223372036854775808 : Int) ≤ (a1 + 1) ∧ (a1 + 1) < 9223372036854775808 ∧
 Calls Try.prog 42 #[.int .i64 (a1 + 1)] ak fun bt b5 => ∃ (ac : Option Addr) (ah af : Nat), bt = .returned (.slice ac ah af) ∧
 Keep [au] ak b5 ∧
 Calls Try.prog 43 #[.int .u64 bh] b5 fun br b8 => ∃ (ai : Option Addr) (aj ae : Nat), br = .returned (.slice ai aj ae) ∧
 Keep [au] b5 b8 ∧
 Calls Try.prog 29 #[.pointer o1, .int .u64 a7, .slice ac ah af, .slice ai aj ae] b8 fun bq bc => ∃ (ab : Option Addr) (ad ag : Nat) (b1 : Int), bq = .returned (.tuple #[.slice ab ad ag, .int .i64 b1]) ∧
 Keep [au] b8 bc ∧
 ∀ (bm : World), Ext (fun b => b = au) bc bm →
 R (.tuple #[.agg #[.int .i64 aa, .int .i64 ap, .int .u64 a2, .int .i64 a5, .slice a4 a0 a3, .slice ab ad ag], .int .u64 a7, .int .i64 0]) bm) ∧
 (a1 < 0 →
 ∀ (bj : World), Ext (fun b => b = au) ak bj →
 R (.tuple #[.agg #[.int .i64 aa, .int .i64 ap, .int .u64 a2, .int .i64 a5, .slice a4 a0 a3, .slice am al an], .int .u64 a7, .int .i64 0]) bj))))

theorem Q0V.up (o1 aw : Option Addr) (az b1 : Nat) (ae b3 : Int) {R : RW} {w : World} (h : Q0V.N o1 aw az b1 ae b3 R w) : Q0V.M o1 aw az b1 ae b3 R w := by
  unfold Q0V.M
  unfold Q0V.N at h
  refine Q01 fun ai e5 => ?_
  have af := Blk.of_new e5
  have cy := ((Ext.refl no w)).size
  have cs := (Ext.refl no w).x_alloc e5
  refine Q01 fun d6 e6 => ?_
  have a0 := Blk.of_new e6
  have cq := (cs).size
  have b4 := Nat.ne_of_lt af.lt
  have af := af.x_alloc e6
  have ct := cs.x_alloc e6
  refine bif_of (fun c7 => ?_) (fun c7 => ?_)
  ·have h := h.1 (Q1B c7)
   refine ⟨0, 0, 0, 0, none, 0, 0, none, 0, 0, ⟨a0.celli 0 rfl rfl, a0.celli 1 rfl rfl, a0.celli 2 rfl rfl, a0.celli 3 rfl rfl, a0.celli 4 rfl rfl, a0.celli 5 rfl rfl, trivial⟩, ?_⟩
   refine Q0p (k := 0) (j := 0) a0 (Nat.le_of_ble_eq_true rfl) fun co X8 b8 => ?_
   have dk := ct.x_puts X8 (.inr cq)
   have a0 : Blk co ai.heap.size 72 [.int .i64 0, .int .i64 0, .int .u64 0, .int .i64 0, .slice none 0 0, .slice none 0 0] := b8
   refine ⟨0, 0, 0, 0, none, 0, 0, none, 0, 0, ⟨a0.celli 0 rfl rfl, a0.celli 1 rfl rfl, a0.celli 2 rfl rfl, a0.celli 3 rfl rfl, a0.celli 4 rfl rfl, a0.celli 5 rfl rfl, trivial⟩, ?_⟩
   have h := h co dk
   exact h
  have h := h.2 (Q1C c7)
  unfold Q0V.J4
  have h := h d6 (w.heap.size) (ai.heap.size) ct (Priv.cons cy af.lt (Priv.cons cq a0.lt Priv.nil))
  refine h.mono fun d3 ba h => ?_
  obtain ⟨bh, he, hk, h⟩ := h
  refine ⟨bh, he, ?_⟩
  have af := hk.blk af (by simp)
  have a0 := hk.blk a0 (by simp)
  have ci : Ext (fun b => b = ai.heap.size) ba ba := ((Ext.refl no ba)).none
  refine ⟨a0.cani 0 rfl rfl, Q01 fun bo ca => ?_⟩
  have ck := ci.x_set (q := ai.heap.size) (i := 0) rfl (.inl rfl) ca
  have af := af.oth (q := ai.heap.size) (i := 0) rfl b4 ca
  have a0 : Blk bo ai.heap.size 72 [.int .i64 3, .int .i64 0, .int .u64 0, .int .i64 0, .slice none 0 0, .slice none 0 0] := a0.seti 0 rfl ca
  refine ⟨aw, az, b1, ae, ⟨af.celli 0 rfl rfl, af.celli 1 rfl rfl, trivial⟩, ?_⟩
  have h := h bo ck
  refine h.mono fun d4 dh h => ?_
  obtain ⟨b9, b6, bf, he, hk, h⟩ := h
  refine ⟨b9, b6, bf, he, ?_⟩
  have af := hk.blk af (by simp)
  have a0 := hk.blk a0 (by simp)
  obtain ⟨I0, de, h0, h⟩ := h
  refine ⟨fun k vs ww => ∃ (a6 a7 a1 a5 : Int) (a2 : Option Addr) (a3 a4 : Nat) (aa : Option Addr) (a9 a8 : Nat), Blk ww w.heap.size 64 [.slice aw az b1, .int .i64 ae] ∧ Blk ww ai.heap.size 72 [.int .i64 a6, .int .i64 a7, .int .u64 a1, .int .i64 a5, .slice a2 a3 a4, .slice aa a9 a8] ∧ I0 k (vs ++ [.int .i64 a6, .int .i64 a7, .int .u64 a1, .int .i64 a5, .slice a2 a3 a4, .slice aa a9 a8]) ww, de, ⟨3, 0, 0, 0, none, 0, 0, none, 0, 0, af, a0, h0⟩, fun d9 ah bp d5 hI => ?_⟩
  obtain ⟨a6, a7, a1, a5, a2, a3, a4, aa, a9, a8, af, a0, hI⟩ := hI
  have h := h d9 ah bp d5 a6 a7 a1 a5 a2 a3 a4 aa a9 a8 hI
  refine bif_fo (fun cg => ?_) (fun cg => ?_)
  ·have h := h.2 (Int.not_lt.1 (of_decide_eq_false cg))
   refine ⟨a2, a3, a4, a0.celli 4 rfl rfl, ?_⟩
   refine bif_of (fun c4 => ?_) (fun c4 => ?_)
   ·have h := h.1 (beq_t c4)
    have bu : Ext (fun b => b = ai.heap.size) ah ah := ((Ext.refl no ah)).none
    refine Q0p (k := 0) (j := 0) a0 (Nat.le_of_ble_eq_true rfl) fun bj d7 cx => ?_
    have bz := bu.x_puts d7 (.inl rfl)
    have a0 : Blk bj ai.heap.size 72 [.int .i64 0, .int .i64 0, .int .u64 0, .int .i64 0, .slice none 0 0, .slice none 0 0] := cx
    refine ⟨0, 0, 0, 0, none, 0, 0, none, 0, 0, ⟨a0.celli 0 rfl rfl, a0.celli 1 rfl rfl, a0.celli 2 rfl rfl, a0.celli 3 rfl rfl, a0.celli 4 rfl rfl, a0.celli 5 rfl rfl, trivial⟩, ?_⟩
    have h := h bj bz
    exact h
   have h := h.2 (beq_f c4)
   unfold Q0V.J3
   refine ⟨ae, af.celli 1 rfl rfl, ?_⟩
   refine bif_fo (fun c1 => ?_) (fun c1 => ?_)
   ·have h := h.2 (Int.not_le.1 (of_decide_eq_false c1))
    refine ⟨a6, a7, a1, a5, a2, a3, a4, aa, a9, a8, ⟨a0.celli 0 rfl rfl, a0.celli 1 rfl rfl, a0.celli 2 rfl rfl, a0.celli 3 rfl rfl, a0.celli 4 rfl rfl, a0.celli 5 rfl rfl, trivial⟩, ?_⟩
    have c5 : Ext (fun b => b = ai.heap.size) ah ah := ((Ext.refl no ah)).none
    refine Q0p (k := 0) (j := 0) a0 (Nat.le_of_ble_eq_true rfl) fun bk df dj => ?_
    have bx := c5.x_puts df (.inl rfl)
    have a0 : Blk bk ai.heap.size 72 [.int .i64 a6, .int .i64 a7, .int .u64 a1, .int .i64 a5, .slice a2 a3 a4, .slice aa a9 a8] := dj
    refine ⟨a6, a7, a1, a5, a2, a3, a4, aa, a9, a8, ⟨a0.celli 0 rfl rfl, a0.celli 1 rfl rfl, a0.celli 2 rfl rfl, a0.celli 3 rfl rfl, a0.celli 4 rfl rfl, a0.celli 5 rfl rfl, trivial⟩, ?_⟩
    have h := h bk bx
    exact h
   have h := h.1 (of_decide_eq_true c1)
   refine ⟨ae, af.celli 1 rfl rfl, ?_⟩
   obtain ⟨cc, cl, h⟩ := h
   try rw [w64 cc cl]
   refine h.mono fun di cz h => ?_
   obtain ⟨an, ap, ao, he, hk, h⟩ := h
   refine ⟨an, ap, ao, he, ?_⟩
   have a0 := hk.blk a0 (by simp)
   refine h.mono fun dg d2 h => ?_
   obtain ⟨ar, aq, au, he, hk, h⟩ := h
   refine ⟨ar, aq, au, he, ?_⟩
   have a0 := hk.blk a0 (by simp)
   refine h.mono fun dl bb h => ?_
   obtain ⟨ad, ab, ac, b0, he, hk, h⟩ := h
   refine ⟨ad, ab, ac, b0, he, ?_⟩
   have a0 := hk.blk a0 (by simp)
   have cd : Ext (fun b => b = ai.heap.size) bb bb := ((Ext.refl no bb)).none
   refine ⟨a0.cani 5 rfl rfl, Q01 fun ce cp => ?_⟩
   have bw := cd.x_set (q := ai.heap.size) (i := 5) rfl (.inl rfl) cp
   have a0 : Blk ce ai.heap.size 72 [.int .i64 a6, .int .i64 a7, .int .u64 a1, .int .i64 a5, .slice a2 a3 a4, .slice ad ab ac] := a0.seti 5 rfl cp
   refine ⟨a6, a7, a1, a5, a2, a3, a4, ad, ab, ac, ⟨a0.celli 0 rfl rfl, a0.celli 1 rfl rfl, a0.celli 2 rfl rfl, a0.celli 3 rfl rfl, a0.celli 4 rfl rfl, a0.celli 5 rfl rfl, trivial⟩, ?_⟩
   refine Q0p (k := 0) (j := 0) a0 (Nat.le_of_ble_eq_true rfl) fun bm cu d8 => ?_
   have c0 := bw.x_puts cu (.inl rfl)
   have a0 : Blk bm ai.heap.size 72 [.int .i64 a6, .int .i64 a7, .int .u64 a1, .int .i64 a5, .slice a2 a3 a4, .slice ad ab ac] := d8
   refine ⟨a6, a7, a1, a5, a2, a3, a4, ad, ab, ac, ⟨a0.celli 0 rfl rfl, a0.celli 1 rfl rfl, a0.celli 2 rfl rfl, a0.celli 3 rfl rfl, a0.celli 4 rfl rfl, a0.celli 5 rfl rfl, trivial⟩, ?_⟩
   have h := h bm c0
   exact h
  have h := h.1 (of_decide_eq_true cg)
  unfold Q0V.J2
  obtain ⟨dm, ch, h⟩ := h
  refine Q05 ch ?_
  obtain ⟨db, cw, h⟩ := h
  refine ⟨db, cw, ?_⟩
  obtain ⟨ak, ag, al, b5, aj, cj, h⟩ := h
  refine ⟨ak, ag, al, b5, aj, cj, ?_⟩
  refine Q01 fun d0 bt => ?_
  have b7 := Blk.of_new bt
  have cr := ((Ext.refl no ah)).size
  have bq := Nat.ne_of_lt af.lt
  have af := af.x_alloc bt
  have bs := Nat.ne_of_lt a0.lt
  have a0 := a0.x_alloc bt
  have bv := (Ext.refl no ah).x_alloc bt
  refine Q0p (k := 0) (j := 0) b7 (Nat.le_of_ble_eq_true rfl) fun bl cb da => ?_
  have cf := bv.x_puts cb (.inr cr)
  have af := af.x_puts cb bq
  have a0 := a0.x_puts cb bs
  have b7 : Blk bl ah.heap.size 110 [.int .i64 ak, .int .u64 ag, .int .i64 al, .int .i64 b5, .int .i64 aj] := da
  refine ⟨ag, b7.celli 1 rfl rfl, ?_⟩
  have h := h bl (ah.heap.size) cf (Priv.cons cr b7.lt Priv.nil)
  refine h.mono fun dc am h => ?_
  obtain ⟨av, ay, b2, be, he, hk, h⟩ := h
  refine ⟨av, ay, b2, be, he, ?_⟩
  have af := hk.blk af (by simp)
  have a0 := hk.blk a0 (by simp)
  have b7 := hk.blk b7 (by simp)
  refine bif_of (fun c3 => ?_) (fun c3 => ?_)
  ·have h := h.1 (bne_t c3)
   have c9 : Ext (fun b => b = ai.heap.size) am am := ((Ext.refl no am)).none
   refine Q0p (k := 0) (j := 0) a0 (Nat.le_of_ble_eq_true rfl) fun bn dd d1 => ?_
   have c8 := c9.x_puts dd (.inl rfl)
   have a0 : Blk bn ai.heap.size 72 [.int .i64 0, .int .i64 0, .int .u64 0, .int .i64 0, .slice none 0 0, .slice none 0 0] := d1
   refine ⟨0, 0, 0, 0, none, 0, 0, none, 0, 0, ⟨a0.celli 0 rfl rfl, a0.celli 1 rfl rfl, a0.celli 2 rfl rfl, a0.celli 3 rfl rfl, a0.celli 4 rfl rfl, a0.celli 5 rfl rfl, trivial⟩, ?_⟩
   have h := h bn c8
   exact h
  have h := h.2 (bne_f c3)
  unfold Q0V.J1
  refine ⟨a2, a3, a4, a0.celli 4 rfl rfl, ?_⟩
  refine ⟨ak, b7.celli 0 rfl rfl, ?_⟩
  refine Q01 fun c6 br => ?_
  have af := af.x_alloc br
  have a0 := a0.x_alloc br
  have h := h c6 am.heap.size ((Ext.refl no am).x_alloc br) (Blk.of_new br) ((Ext.refl no am)).size (Q0x br)
  obtain ⟨bg, bc, bd, ax, hr, hk, h⟩ := h
  refine ⟨bg, bc, bd, ax, hr, ?_⟩
  have af := hk.blk af (by simp)
  have a0 := hk.blk a0 (by simp)
  have c2 : Ext (fun b => b = ai.heap.size) ax ax := ((Ext.refl no ax)).none
  refine ⟨a0.cani 4 rfl rfl, Q01 fun bi cm => ?_⟩
  have cn := c2.x_set (q := ai.heap.size) (i := 4) rfl (.inl rfl) cm
  have af := af.oth (q := ai.heap.size) (i := 4) rfl b4 cm
  have a0 : Blk bi ai.heap.size 72 [.int .i64 a6, .int .i64 a7, .int .u64 a1, .int .i64 a5, .slice bg bc bd, .slice aa a9 a8] := a0.seti 4 rfl cm
  obtain ⟨cc, cl, h⟩ := h
  try rw [w64 cc cl]
  have h := h bi cn
  obtain ⟨cv, hk, h⟩ := h
  exact ⟨cv, hk, a6, a7, a1, a5, bg, bc, bd, aa, a9, a8, af, a0, h⟩

theorem Q0V.go (o1 a4 : Option Addr) (a3 a2 : Nat) (a0 a1 : Int) {R : RW} {w : World} (h : Q0V.N o1 a4 a3 a2 a0 a1 R w) : Calls Try.prog 21 #[.pointer o1, .agg #[.slice a4 a3 a2, .int .i64 a0], .int .u64 a1] w fun e w' => ∃ v, e = .returned v ∧ R v w' := Q0V.ok o1 a4 a3 a2 a0 a1 (Q0V.up o1 a4 a3 a2 a0 a1 h)
abbrev Q0K.J1 (a6 : Int) (a9 : Option Addr) (aa a8 : Nat) (ab : Int) (I0 : Nat → List Value → World → Prop) (m6 : Nat) (R : RW) (a1 : World) : Prop :=
 256 ≠ (0 : Int) ∧ thenW (a1.alloc (.cells #[.int .u8 (IntKind.u8.wrap (Int.tmod a6 256))] 5)) fun a5 =>
 ∃ (a0 : Option Addr) (a2 a4 : Nat) (a3 : World), (Builtin.append_ #[25, 25] 25 #[.slice (some (blk a1.heap.size)) 1 1, .slice a9 aa a8]).run Try.prog a5 = .ok (.slice a0 a2 a4) a3 ∧
 256 ≠ (0 : Int) ∧ ∃ a7, a7 < m6 ∧ I0 a7 [.int .u64 (IntKind.u64.wrap (Int.tdiv a6 256)), .slice a0 a2 a4, .int .i64 (IntKind.i64.wrap (ab + 1))] a3

def Q0K.M (n1 : Int) (R : RW) (w : World) : Prop :=
 ∃ (I0 : Nat → List Value → World → Prop) (m5 : Nat), I0 m5 [.int .u64 n1, .slice none 0 0, .int .i64 0] w ∧ ∀ (m6 : Nat) (a1 : World) (n2 : Int) (a3 : Option Addr) (a0 a2 : Nat) (i4 : Int), I0 m6 [.int .u64 n2, .slice a3 a0 a2, .int .i64 i4] a1 →
 bif decide (i4 < 8) then (
 Q0K.J1 n2 a3 a0 a2 i4 I0 m6 R a1) else (
 R (.slice a3 a0 a2) a1)

theorem Q0K.ok (n1 : Int) {R : RW} {w : World} (h : Q0K.M n1 R w) : Calls Try.prog 49 #[.int .u64 n1] w fun e w' => ∃ v, e = .returned v ∧ R v w' :=
  Q0i follows (H := [(0, [], [(0, (.one (.int .u64))), (3, (.one .slice)), (4, (.one (.int .i64)))])]) (args := [.int .u64 n1]) (cast (by kernel_rfl) h)

def Q0K.N (n1 : Int) (R : RW) (w : World) : Prop :=
 ∃ (I0 : Nat → List Value → World → Prop) (m5 : Nat), I0 m5 [.int .u64 n1, .slice none 0 0, .int .i64 0] w ∧ ∀ (m6 : Nat) (a4 : World) (n2 : Int) (a8 : Option Addr) (a9 a7 : Nat) (i4 : Int), I0 m6 [.int .u64 n2, .slice a8 a9 a7, .int .i64 i4] a4 →
 (i4 < 8 →
 ∀ (a6 : World) (a5 : Nat), Ext no a4 a6 → Blk a6 a5 5 [.int .u8 (IntKind.u8.wrap (Int.tmod n2 256))] → a4.heap.size ≤ a5 → a5 < a6.heap.size →
 ∃ (a0 : Option Addr) (a1 a2 : Nat) (a3 : World), (Builtin.append_ #[25, 25] 25 #[.slice (some (blk a5)) 1 1, .slice a8 a9 a7]).run Try.prog a6 = .ok (.slice a0 a1 a2) a3 ∧
 (-9223372036854775808 : Int) ≤ (i4 + 1) ∧ (i4 + 1) < 9223372036854775808 ∧
 ∃ aa, aa < m6 ∧ I0 aa [.int .u64 (IntKind.u64.wrap (Int.tdiv n2 256)), .slice a0 a1 a2, .int .i64 (i4 + 1)] a3) ∧
 ((8 : Int) ≤ i4 →
 R (.slice a8 a9 a7) a4)

theorem Q0K.up (n1 : Int) {R : RW} {w : World} (h : Q0K.N n1 R w) : Q0K.M n1 R w := by
  unfold Q0K.M
  unfold Q0K.N at h
  obtain ⟨I0, m5, h0, h⟩ := h
  refine ⟨I0, m5, h0, fun m6 a0 n2 a7 a8 a6 i4 hI => ?_⟩
  have h := h m6 a0 n2 a7 a8 a6 i4 hI
  refine bif_fo (fun c8 => ?_) (fun c8 => ?_)
  ·have h := h.2 (Int.not_lt.1 (of_decide_eq_false c8))
   exact h
  have h := h.1 (of_decide_eq_true c8)
  unfold Q0K.J1
  refine ⟨by decide, ?_⟩
  refine Q01 fun aa e9 => ?_
  have h := h aa a0.heap.size ((Ext.refl no a0).x_alloc e9) (Blk.of_new e9) ((Ext.refl no a0)).size (Q0x e9)
  obtain ⟨a1, a2, a3, a4, hr, h⟩ := h
  refine ⟨a1, a2, a3, a4, hr, ?_⟩
  refine ⟨by decide, ?_⟩
  obtain ⟨a9, a5, h⟩ := h
  try rw [w64 a9 a5]
  obtain ⟨ab, hk, h⟩ := h
  exact ⟨ab, hk, h⟩

theorem Q0K.go (n1 : Int) {R : RW} {w : World} (h : Q0K.N n1 R w) : Calls Try.prog 49 #[.int .u64 n1] w fun e w' => ∃ v, e = .returned v ∧ R v w' := Q0K.ok n1 (Q0K.up n1 h)
abbrev Q0q.J1 (al : Option Addr) (ak ah : Nat) (a6 : Int) (I0 : Nat → List Value → World → Prop) (ag : Option Addr) (ai : Nat) (ae : Addr) (aj : Nat) (R : RW) (ab : World) : Prop :=
 thenW (ab.drew) fun a3 =>
 ∃ (a1 : Option Addr) (a0 a2 : Nat), a3.cell? (ae.add 4) = some (.slice a1 a0 a2) ∧
 ag.elim False fun af =>
 0 ≤ (a6 : Int) ∧ (a6 : Int) < (ai : Int) ∧
 ∃ (a4 : Int), a3.cell? ((af.add (Int.toNat a6 * 5)).add 0) = some (.int .i64 a4) ∧
 thenW (a3.alloc (.cells #[.int .i64 a4, .slice al ak ah] 119)) fun a7 =>
 a7.cell? (ae.add 4) = some (.slice a1 a0 a2) ∧
 ∃ (a8 : Option Addr) (aa a9 : Nat) (a5 : World), (Builtin.append_ #[75, 75] 75 #[.slice a1 a0 a2, .slice (some (blk a3.heap.size)) 1 1]).run Try.prog a7 = .ok (.slice a8 aa a9) a5 ∧
 Q0d a5 ((ae.add 4).add 0) ∧
 thenW (a5.setCell ((ae.add 4).add 0) (.slice a8 aa a9)) fun ad =>
 ∃ ac, ac < aj ∧ I0 ac [.int .i64 (IntKind.i64.wrap (a6 + 1))] ad

abbrev Q0q.J2 (ai : Int) (I0 : Nat → List Value → World → Prop) (ak : Option Addr) (am : Nat) (ap : Addr) (aq : Int) (al : Addr) (ar : Option Addr) (an : Nat) (R : RW) (ag : World) : Prop :=
 ak.elim False fun ao =>
 0 ≤ (ai : Int) ∧ (ai : Int) < (am : Int) ∧
 ∃ (a9 : Int), ag.cell? ((ao.add (Int.toNat ai * 5)).add 1) = some (.int .u64 a9) ∧
 Calls Try.prog 46 #[.pointer ar, .int .u64 a9, .int .u64 aq] ag fun aj af => ∃ (ae : Option Addr) (ad ac : Nat) (ab : Int), aj = .returned (.tuple #[.slice ae ad ac, .int .i64 ab]) ∧
 bif ab != 0 then (
 putsK af al [.int .i64 0, .int .i64 0, .int .u64 0, .int .i64 0, .slice none 0 0, .slice none 0 0] 0 fun ah =>
 ∃ (a8 aa a3 a4 : Int) (a1 : Option Addr) (a0 a2 : Nat) (a7 : Option Addr) (a6 a5 : Nat), cellsAt ah al [.int .i64 a8, .int .i64 aa, .int .u64 a3, .int .i64 a4, .slice a1 a0 a2, .slice a7 a6 a5] 0 ∧
 R (.tuple #[.agg #[.int .i64 a8, .int .i64 aa, .int .u64 a3, .int .i64 a4, .slice a1 a0 a2, .slice a7 a6 a5], .int .u64 0, .int .i64 ab]) ah) else (
 Q0q.J1 ae ad ac ai I0 ak am ap an R af)

abbrev Q0q.J3 (c2 : Option Addr) (bx : Nat) (bs : Addr) (bu : Int) (bp c0 : Addr) (c1 : Option Addr) (c4 : Int) (R : RW) (bv : World) : Prop :=
 ∃ (I0 : Nat → List Value → World → Prop) (c3 : Nat), I0 c3 [.int .i64 0] bv ∧ ∀ (bz : Nat) (bc : World) (bw : Int), I0 bz [.int .i64 bw] bc →
 bif decide (bw < (bx : Int)) then (
 Q0q.J2 bw I0 c2 bx bs bu bp c1 bz R bc) else (
 ∃ (b6 : Int), bc.cell? (c0.add 1) = some (.int .i64 b6) ∧
 bif b6 != (-1) then (
 ∃ (ba : Int), bc.cell? (c0.add 1) = some (.int .i64 ba) ∧
 Calls Try.prog 48 #[.int .u64 (IntKind.u64.wrap (IntKind.i64.wrap (ba + 1)))] bc fun bo bt => ∃ (bf : Option Addr) (bg bd : Nat), bo = .returned (.slice bf bg bd) ∧
 Calls Try.prog 49 #[.int .u64 c4] bt fun br bn => ∃ (ax : Option Addr) (aw aq : Nat), br = .returned (.slice ax aw aq) ∧
 Calls Try.prog 47 #[.pointer c1, .int .u64 bu, .slice bf bg bd, .slice ax aw aq] bn fun bq bl => ∃ (az : Option Addr) (ar b1 : Nat) (bi : Int), bq = .returned (.tuple #[.slice az ar b1, .int .i64 bi]) ∧
 Q0d bl ((bs.add 5).add 0) ∧
 thenW (bl.setCell ((bs.add 5).add 0) (.slice az ar b1)) fun bj =>
 ∃ (b4 bh ac av : Int) (ad : Option Addr) (aa ah : Nat) (b2 : Option Addr) (b8 b7 : Nat), cellsAt bj bs [.int .i64 b4, .int .i64 bh, .int .u64 ac, .int .i64 av, .slice ad aa ah, .slice b2 b8 b7] 0 ∧
 putsK bj bp [.int .i64 b4, .int .i64 bh, .int .u64 ac, .int .i64 av, .slice ad aa ah, .slice b2 b8 b7] 0 fun bk =>
 ∃ (af au a5 a9 : Int) (a1 : Option Addr) (a2 a0 : Nat) (ab : Option Addr) (ak ag : Nat), cellsAt bk bp [.int .i64 af, .int .i64 au, .int .u64 a5, .int .i64 a9, .slice a1 a2 a0, .slice ab ak ag] 0 ∧
 R (.tuple #[.agg #[.int .i64 af, .int .i64 au, .int .u64 a5, .int .i64 a9, .slice a1 a2 a0, .slice ab ak ag], .int .u64 bu, .int .i64 0]) bk) else (
 ∃ (b9 be an ay : Int) (aj : Option Addr) (ap ao : Nat) (b3 : Option Addr) (bb b5 : Nat), cellsAt bc bs [.int .i64 b9, .int .i64 be, .int .u64 an, .int .i64 ay, .slice aj ap ao, .slice b3 bb b5] 0 ∧
 putsK bc bp [.int .i64 b9, .int .i64 be, .int .u64 an, .int .i64 ay, .slice aj ap ao, .slice b3 bb b5] 0 fun bm =>
 ∃ (ai b0 a6 a8 : Int) (a4 : Option Addr) (a3 a7 : Nat) (am : Option Addr) (ae al : Nat), cellsAt bm bp [.int .i64 ai, .int .i64 b0, .int .u64 a6, .int .i64 a8, .slice a4 a3 a7, .slice am ae al] 0 ∧
 R (.tuple #[.agg #[.int .i64 ai, .int .i64 b0, .int .u64 a6, .int .i64 a8, .slice a4 a3 a7, .slice am ae al], .int .u64 bu, .int .i64 0]) bm))

def Q0q.M (o1 ap : Option Addr) (ar ao : Nat) (ad aj : Int) (R : RW) (w : World) : Prop :=
 thenW (w.alloc (.cells #[.slice ap ar ao, .int .i64 ad] 68)) fun an =>
 thenW (an.alloc (.cells #[.int .i64 0, .int .i64 0, .int .u64 0, .int .i64 0, .slice none 0 0, .slice none 0 0] 77)) fun aw =>
 Calls Try.prog 44 #[.pointer o1] aw fun ax av => ∃ (al : Int), ax = .returned (.int .u64 al) ∧
 thenW (av.alloc (.cells #[.int .i64 0, .int .i64 0, .int .u64 0, .int .i64 0, .slice none 0 0, .slice none 0 0] 77)) fun aq =>
 putsK aq (blk av.heap.size) [.int .i64 3, .int .i64 0, .int .u64 0, .int .i64 0, .slice none 0 0, .slice none 0 0] 0 fun ak =>
 ∃ (af : Option Addr) (ag ae : Nat) (a9 : Int), cellsAt ak (blk w.heap.size) [.slice af ag ae, .int .i64 a9] 0 ∧
 Calls Try.prog 45 #[.agg #[.slice af ag ae, .int .i64 a9]] ak fun au ai => ∃ (ac : Option Addr) (ab ah : Nat), au = .returned (.slice ac ab ah) ∧
 bif (ab : Int) == 0 then (
 putsK ai (blk an.heap.size) [.int .i64 0, .int .i64 0, .int .u64 0, .int .i64 0, .slice none 0 0, .slice none 0 0] 0 fun am =>
 ∃ (a7 aa a0 a4 : Int) (a1 : Option Addr) (a3 a2 : Nat) (a8 : Option Addr) (a5 a6 : Nat), cellsAt am (blk an.heap.size) [.int .i64 a7, .int .i64 aa, .int .u64 a0, .int .i64 a4, .slice a1 a3 a2, .slice a8 a5 a6] 0 ∧
 R (.tuple #[.agg #[.int .i64 a7, .int .i64 aa, .int .u64 a0, .int .i64 a4, .slice a1 a3 a2, .slice a8 a5 a6], .int .u64 0, .int .i64 10]) am) else (
 Q0q.J3 ac ab (blk av.heap.size) al (blk an.heap.size) (blk w.heap.size) o1 aj R ai)

theorem Q0q.ok (o1 a4 : Option Addr) (a3 a2 : Nat) (a0 a1 : Int) {R : RW} {w : World} (h : Q0q.M o1 a4 a3 a2 a0 a1 R w) : Calls Try.prog 22 #[.pointer o1, .agg #[.slice a4 a3 a2, .int .i64 a0], .int .u64 a1] w fun e w' => ∃ v, e = .returned v ∧ R v w' :=
  Q0i follows (H := [(0, [0, 2, 4, 6, 9, 10, 11], [(12, (.one (.int .i64)))])]) (args := [.pointer o1, .agg #[.slice a4 a3 a2, .int .i64 a0], .int .u64 a1]) (cast (by kernel_rfl) h)

def Q0q.N (o1 bu : Option Addr) (bz c2 : Nat) (a0 bi : Int) (R : RW) (w : World) : Prop :=
 ∀ (bt : World) (p7 p8 : Nat), Ext no w bt → Priv w bt [p7, p8] →
 Calls Try.prog 44 #[.pointer o1] bt fun bv bf => ∃ (az : Int), bv = .returned (.int .u64 az) ∧
 Keep [p7, p8] bt bf ∧
 ∀ (b7 : World) (b9 : Nat), Ext no bf b7 → Priv bf b7 [b9] →
 Calls Try.prog 45 #[.agg #[.slice bu bz c2, .int .i64 a0]] b7 fun bx bh => ∃ (ax : Option Addr) (a1 bd : Nat), bx = .returned (.slice ax a1 bd) ∧
 Keep [p7, p8, b9] b7 bh ∧
 ((a1 : Int) = 0 →
 ∀ (br : World), Ext (fun b => b = p8) bh br →
 R (.tuple #[.agg #[.int .i64 0, .int .i64 0, .int .u64 0, .int .i64 0, .slice none 0 0, .slice none 0 0], .int .u64 0, .int .i64 10]) br) ∧
 ((a1 : Int) ≠ 0 →
 ∃ (I0 : Nat → List Value → World → Prop) (c7 : Nat), I0 c7 [.int .i64 0, .int .i64 0, .int .i64 0, .int .u64 0, .int .i64 0, .slice none 0 0, .slice none 0 0, .int .i64 3, .int .i64 0, .int .u64 0, .int .i64 0, .slice none 0 0, .slice none 0 0] bh ∧ ∀ (c6 : Nat) (ak : World) (av b6 ba aj ap : Int) (ac : Option Addr) (a9 ad : Nat) (b1 : Option Addr) (b3 b0 : Nat) (a7 aq a3 a6 : Int) (a5 : Option Addr) (a2 a4 : Nat) (al : Option Addr) (an am : Nat), I0 c6 [.int .i64 av, .int .i64 b6, .int .i64 ba, .int .u64 aj, .int .i64 ap, .slice ac a9 ad, .slice b1 b3 b0, .int .i64 a7, .int .i64 aq, .int .u64 a3, .int .i64 a6, .slice a5 a2 a4, .slice al an am] ak →
 (av < (a1 : Int) →
 ∃ c1 : Addr, ax = some c1 ∧
 0 ≤ (av : Int) ∧ (av : Int) < (a1 : Int) ∧
 ∃ (ae : Int), ak.cell? ((c1.add (Int.toNat av * 5)).add 1) = some (.int .u64 ae) ∧
 Calls Try.prog 46 #[.pointer o1, .int .u64 ae, .int .u64 az] ak fun bw b2 => ∃ (ar : Option Addr) (ao au : Nat) (a8 : Int), bw = .returned (.tuple #[.slice ar ao au, .int .i64 a8]) ∧
 Keep [p7, p8, b9] ak b2 ∧
 (a8 ≠ 0 →
 ∀ (bl : World), Ext (fun b => b = p8) b2 bl →
 R (.tuple #[.agg #[.int .i64 0, .int .i64 0, .int .u64 0, .int .i64 0, .slice none 0 0, .slice none 0 0], .int .u64 0, .int .i64 a8]) bl) ∧
 (a8 = 0 →
 0 ≤ (av : Int) ∧ (av : Int) < (a1 : Int) ∧
 ∃ (bb : Int), b2.cell? ((c1.add (Int.toNat av * 5)).add 0) = some (.int .i64 bb) ∧
 ∀ (ay : World) (bs : Nat), Ext no b2 ay → Blk ay bs 119 [.int .i64 bb, .slice ar ao au] → b2.heap.size ≤ bs → bs < ay.heap.size →
 ∃ (bo : Option Addr) (bp bq : Nat) (bc : World), (Builtin.append_ #[75, 75] 75 #[.slice a5 a2 a4, .slice (some (blk bs)) 1 1]).run Try.prog ay = .ok (.slice bo bp bq) bc ∧
 Keep [p7, p8, b9] ay bc ∧
 (-9223372036854775808 : Int) ≤ (av + 1) ∧ (av + 1) < 9223372036854775808 ∧
 ∀ (bj : World), Ext (fun b => b = b9) bc bj →
 ∃ c5, c5 < c6 ∧ I0 c5 [.int .i64 (av + 1), .int .i64 b6, .int .i64 ba, .int .u64 aj, .int .i64 ap, .slice ac a9 ad, .slice b1 b3 b0, .int .i64 a7, .int .i64 aq, .int .u64 a3, .int .i64 a6, .slice bo bp bq, .slice al an am] bj)) ∧
 ((a1 : Int) ≤ av →
 (a0 ≠ (-1) →
 (-9223372036854775808 : Int) ≤ (a0 + 1) ∧ (a0 + 1) < 9223372036854775808 ∧
 Calls Try.prog 48 #[.int .u64 (IntKind.u64.wrap (a0 + 1))] ak fun c3 bg => ∃ (b5 : Option Addr) (b4 aw : Nat), c3 = .returned (.slice b5 b4 aw) ∧
 Keep [p8, b9] ak bg ∧
 Calls Try.prog 49 #[.int .u64 bi] bg fun c4 be => ∃ (ab : Option Addr) (ah aa : Nat), c4 = .returned (.slice ab ah aa) ∧
 Keep [p8, b9] bg be ∧
 Calls Try.prog 47 #[.pointer o1, .int .u64 az, .slice b5 b4 aw, .slice ab ah aa] be fun c0 bk => ∃ (ai : Option Addr) (ag af : Nat) (b8 : Int), c0 = .returned (.tuple #[.slice ai ag af, .int .i64 b8]) ∧
 Keep [p8, b9] be bk ∧
 ∀ (bn : World), Ext (fun b => b = p8 ∨ b = b9) bk bn →
 R (.tuple #[.agg #[.int .i64 a7, .int .i64 aq, .int .u64 a3, .int .i64 a6, .slice a5 a2 a4, .slice ai ag af], .int .u64 az, .int .i64 0]) bn) ∧
 (a0 = (-1) →
 ∀ (bm : World), Ext (fun b => b = p8) ak bm →
 R (.tuple #[.agg #[.int .i64 a7, .int .i64 aq, .int .u64 a3, .int .i64 a6, .slice a5 a2 a4, .slice al an am], .int .u64 az, .int .i64 0]) bm)))

theorem Q0q.up (o1 b2 : Option Addr) (b6 b8 : Nat) (aj bb : Int) {R : RW} {w : World} (h : Q0q.N o1 b2 b6 b8 aj bb R w) : Q0q.M o1 b2 b6 b8 aj bb R w := by
  unfold Q0q.M
  unfold Q0q.N at h
  refine Q01 fun az e5 => ?_
  have al := Blk.of_new e5
  have d4 := ((Ext.refl no w)).size
  have cy := (Ext.refl no w).x_alloc e5
  refine Q01 fun d9 e6 => ?_
  have a5 := Blk.of_new e6
  have d8 := (cy).size
  have cw := Nat.ne_of_lt al.lt
  have al := al.x_alloc e6
  have dl := cy.x_alloc e6
  have h := h d9 (w.heap.size) (az.heap.size) dl (Priv.cons d4 al.lt (Priv.cons d8 a5.lt Priv.nil))
  refine h.mono fun d3 ak h => ?_
  obtain ⟨c9, he, hk, h⟩ := h
  refine ⟨c9, he, ?_⟩
  have al := hk.blk al (by simp)
  have a5 := hk.blk a5 (by simp)
  refine Q01 fun df c0 => ?_
  have a7 := Blk.of_new c0
  have cx := ((Ext.refl no ak)).size
  have bc := Nat.ne_of_lt al.lt
  have al := al.x_alloc c0
  have ay := Nat.ne_of_lt a5.lt
  have a5 := a5.x_alloc c0
  have cr := (Ext.refl no ak).x_alloc c0
  refine Q0p (k := 0) (j := 0) a7 (Nat.le_of_ble_eq_true rfl) fun bq cg dm => ?_
  have c8 := cr.x_puts cg (.inr cx)
  have al := al.x_puts cg bc
  have a5 := a5.x_puts cg ay
  have a7 : Blk bq ak.heap.size 77 [.int .i64 3, .int .i64 0, .int .u64 0, .int .i64 0, .slice none 0 0, .slice none 0 0] := dm
  refine ⟨b2, b6, b8, aj, ⟨al.celli 0 rfl rfl, al.celli 1 rfl rfl, trivial⟩, ?_⟩
  have h := h bq (ak.heap.size) c8 (Priv.cons cx a7.lt Priv.nil)
  refine h.mono fun d6 bo h => ?_
  obtain ⟨be, bg, bf, he, hk, h⟩ := h
  refine ⟨be, bg, bf, he, ?_⟩
  have al := hk.blk al (by simp)
  have a5 := hk.blk a5 (by simp)
  have a7 := hk.blk a7 (by simp)
  refine bif_of (fun cp => ?_) (fun cp => ?_)
  ·have h := h.1 (beq_t cp)
   have ce : Ext (fun b => b = az.heap.size) bo bo := ((Ext.refl no bo)).none
   refine Q0p (k := 0) (j := 0) a5 (Nat.le_of_ble_eq_true rfl) fun bx dn dp => ?_
   have ci := ce.x_puts dn (.inl rfl)
   have a5 : Blk bx az.heap.size 77 [.int .i64 0, .int .i64 0, .int .u64 0, .int .i64 0, .slice none 0 0, .slice none 0 0] := dp
   refine ⟨0, 0, 0, 0, none, 0, 0, none, 0, 0, ⟨a5.celli 0 rfl rfl, a5.celli 1 rfl rfl, a5.celli 2 rfl rfl, a5.celli 3 rfl rfl, a5.celli 4 rfl rfl, a5.celli 5 rfl rfl, trivial⟩, ?_⟩
   have h := h bx ci
   exact h
  have h := h.2 (beq_f cp)
  unfold Q0q.J3
  obtain ⟨I0, dg, h0, h⟩ := h
  refine ⟨fun k vs ww => ∃ (aq ar ai am : Int) (ad : Option Addr) (ac ae : Nat) (ao : Option Addr) (ap an : Nat) (a6 a8 a0 a4 : Int) (a3 : Option Addr) (a1 a2 : Nat) (a9 : Option Addr) (ab aa : Nat), Blk ww w.heap.size 68 [.slice b2 b6 b8, .int .i64 aj] ∧ Blk ww az.heap.size 77 [.int .i64 aq, .int .i64 ar, .int .u64 ai, .int .i64 am, .slice ad ac ae, .slice ao ap an] ∧ Blk ww ak.heap.size 77 [.int .i64 a6, .int .i64 a8, .int .u64 a0, .int .i64 a4, .slice a3 a1 a2, .slice a9 ab aa] ∧ I0 k (vs ++ [.int .i64 aq, .int .i64 ar, .int .u64 ai, .int .i64 am, .slice ad ac ae, .slice ao ap an, .int .i64 a6, .int .i64 a8, .int .u64 a0, .int .i64 a4, .slice a3 a1 a2, .slice a9 ab aa]) ww, dg, ⟨0, 0, 0, 0, none, 0, 0, none, 0, 0, 3, 0, 0, 0, none, 0, 0, none, 0, 0, al, a5, a7, h0⟩, fun dj b3 dk hI => ?_⟩
  obtain ⟨aq, ar, ai, am, ad, ac, ae, ao, ap, an, a6, a8, a0, a4, a3, a1, a2, a9, ab, aa, al, a5, a7, hI⟩ := hI
  have h := h dj b3 dk aq ar ai am ad ac ae ao ap an a6 a8 a0 a4 a3 a1 a2 a9 ab aa hI
  refine bif_fo (fun cm => ?_) (fun cm => ?_)
  ·have h := h.2 (Int.not_lt.1 (of_decide_eq_false cm))
   refine ⟨aj, al.celli 1 rfl rfl, ?_⟩
   refine bif_fo (fun ck => ?_) (fun ck => ?_)
   ·have h := h.2 (bne_f ck)
    refine ⟨a6, a8, a0, a4, a3, a1, a2, a9, ab, aa, ⟨a7.celli 0 rfl rfl, a7.celli 1 rfl rfl, a7.celli 2 rfl rfl, a7.celli 3 rfl rfl, a7.celli 4 rfl rfl, a7.celli 5 rfl rfl, trivial⟩, ?_⟩
    have cd : Ext (fun b => b = az.heap.size) b3 b3 := ((Ext.refl no b3)).none
    refine Q0p (k := 0) (j := 0) a5 (Nat.le_of_ble_eq_true rfl) fun bu cz de => ?_
    have ca := cd.x_puts cz (.inl rfl)
    have a5 : Blk bu az.heap.size 77 [.int .i64 a6, .int .i64 a8, .int .u64 a0, .int .i64 a4, .slice a3 a1 a2, .slice a9 ab aa] := de
    refine ⟨a6, a8, a0, a4, a3, a1, a2, a9, ab, aa, ⟨a5.celli 0 rfl rfl, a5.celli 1 rfl rfl, a5.celli 2 rfl rfl, a5.celli 3 rfl rfl, a5.celli 4 rfl rfl, a5.celli 5 rfl rfl, trivial⟩, ?_⟩
    have h := h bu ca
    exact h
   have h := h.1 (bne_t ck)
   refine ⟨aj, al.celli 1 rfl rfl, ?_⟩
   obtain ⟨cj, cs, h⟩ := h
   try rw [w64 cj cs]
   refine h.mono fun dd dh h => ?_
   obtain ⟨bi, bh, bd, he, hk, h⟩ := h
   refine ⟨bi, bh, bd, he, ?_⟩
   have a5 := hk.blk a5 (by simp)
   have a7 := hk.blk a7 (by simp)
   refine h.mono fun di db h => ?_
   obtain ⟨av, ax, au, he, hk, h⟩ := h
   refine ⟨av, ax, au, he, ?_⟩
   have a5 := hk.blk a5 (by simp)
   have a7 := hk.blk a7 (by simp)
   refine h.mono fun d7 b4 h => ?_
   obtain ⟨ah, ag, af, b5, he, hk, h⟩ := h
   refine ⟨ah, ag, af, b5, he, ?_⟩
   have a5 := hk.blk a5 (by simp)
   have a7 := hk.blk a7 (by simp)
   have cf : Ext (fun b => b = ak.heap.size) b4 b4 := ((Ext.refl no b4)).none
   refine ⟨a7.cani 5 rfl rfl, Q01 fun bv ch => ?_⟩
   have c6 := cf.x_set (q := ak.heap.size) (i := 5) rfl (.inl rfl) ch
   have a5 := a5.oth (q := ak.heap.size) (i := 5) rfl ay ch
   have a7 : Blk bv ak.heap.size 77 [.int .i64 a6, .int .i64 a8, .int .u64 a0, .int .i64 a4, .slice a3 a1 a2, .slice ah ag af] := a7.seti 5 rfl ch
   refine ⟨a6, a8, a0, a4, a3, a1, a2, ah, ag, af, ⟨a7.celli 0 rfl rfl, a7.celli 1 rfl rfl, a7.celli 2 rfl rfl, a7.celli 3 rfl rfl, a7.celli 4 rfl rfl, a7.celli 5 rfl rfl, trivial⟩, ?_⟩
   have cl : Ext (fun b => b = az.heap.size ∨ b = ak.heap.size) b4 bv := (c6).mono fun _ h _ => .inr h
   refine Q0p (k := 0) (j := 0) a5 (Nat.le_of_ble_eq_true rfl) fun bw d0 dc => ?_
   have c5 := cl.x_puts d0 (.inl (.inl rfl))
   have a5 : Blk bw az.heap.size 77 [.int .i64 a6, .int .i64 a8, .int .u64 a0, .int .i64 a4, .slice a3 a1 a2, .slice ah ag af] := dc
   refine ⟨a6, a8, a0, a4, a3, a1, a2, ah, ag, af, ⟨a5.celli 0 rfl rfl, a5.celli 1 rfl rfl, a5.celli 2 rfl rfl, a5.celli 3 rfl rfl, a5.celli 4 rfl rfl, a5.celli 5 rfl rfl, trivial⟩, ?_⟩
   have h := h bw c5
   exact h
  have h := h.1 (of_decide_eq_true cm)
  unfold Q0q.J2
  obtain ⟨dq, br, h⟩ := h
  refine Q05 br ?_
  obtain ⟨cn, c4, h⟩ := h
  refine ⟨cn, c4, ?_⟩
  obtain ⟨aw, ct, h⟩ := h
  refine ⟨aw, ct, ?_⟩
  refine h.mono fun d2 b7 h => ?_
  obtain ⟨b9, b0, ba, bn, he, hk, h⟩ := h
  refine ⟨b9, b0, ba, bn, he, ?_⟩
  have al := hk.blk al (by simp)
  have a5 := hk.blk a5 (by simp)
  have a7 := hk.blk a7 (by simp)
  refine bif_of (fun cb => ?_) (fun cb => ?_)
  ·have h := h.1 (bne_t cb)
   have cq : Ext (fun b => b = az.heap.size) b7 b7 := ((Ext.refl no b7)).none
   refine Q0p (k := 0) (j := 0) a5 (Nat.le_of_ble_eq_true rfl) fun bt d1 d5 => ?_
   have co := cq.x_puts d1 (.inl rfl)
   have a5 : Blk bt az.heap.size 77 [.int .i64 0, .int .i64 0, .int .u64 0, .int .i64 0, .slice none 0 0, .slice none 0 0] := d5
   refine ⟨0, 0, 0, 0, none, 0, 0, none, 0, 0, ⟨a5.celli 0 rfl rfl, a5.celli 1 rfl rfl, a5.celli 2 rfl rfl, a5.celli 3 rfl rfl, a5.celli 4 rfl rfl, a5.celli 5 rfl rfl, trivial⟩, ?_⟩
   have h := h bt co
   exact h
  have h := h.2 (bne_f cb)
  unfold Q0q.J1
  refine Q01 fun cc c2 => ?_
  have bm := (Ext.refl no b7).x_drew c2
  have al := al.x_drew c2
  have a5 := a5.x_drew c2
  have a7 := a7.x_drew c2
  refine ⟨a3, a1, a2, a7.celli 4 rfl rfl, ?_⟩
  refine Q05 br ?_
  obtain ⟨cn, c4, h⟩ := h
  refine ⟨cn, c4, ?_⟩
  obtain ⟨bz, c3, h⟩ := h
  refine ⟨bz, (bm).cell c3 id, ?_⟩
  refine Q01 fun c7 bp => ?_
  have al := al.x_alloc bp
  have a5 := a5.x_alloc bp
  have a7 := a7.x_alloc bp
  have h := h c7 cc.heap.size (bm.x_alloc bp) (Blk.of_new bp) (bm).size (Q0x bp)
  refine ⟨a7.celli 4 rfl rfl, ?_⟩
  obtain ⟨bj, bk, bl, b1, hr, hk, h⟩ := h
  refine ⟨bj, bk, bl, b1, hr, ?_⟩
  have al := hk.blk al (by simp)
  have a5 := hk.blk a5 (by simp)
  have a7 := hk.blk a7 (by simp)
  have cv : Ext (fun b => b = ak.heap.size) b1 b1 := ((Ext.refl no b1)).none
  refine ⟨a7.cani 4 rfl rfl, Q01 fun bs c1 => ?_⟩
  have cu := cv.x_set (q := ak.heap.size) (i := 4) rfl (.inl rfl) c1
  have al := al.oth (q := ak.heap.size) (i := 4) rfl bc c1
  have a5 := a5.oth (q := ak.heap.size) (i := 4) rfl ay c1
  have a7 : Blk bs ak.heap.size 77 [.int .i64 a6, .int .i64 a8, .int .u64 a0, .int .i64 a4, .slice bj bk bl, .slice a9 ab aa] := a7.seti 4 rfl c1
  obtain ⟨cj, cs, h⟩ := h
  try rw [w64 cj cs]
  have h := h bs cu
  obtain ⟨da, hk, h⟩ := h
  exact ⟨da, hk, aq, ar, ai, am, ad, ac, ae, ao, ap, an, a6, a8, a0, a4, bj, bk, bl, a9, ab, aa, al, a5, a7, h⟩

theorem Q0q.go (o1 a4 : Option Addr) (a3 a2 : Nat) (a0 a1 : Int) {R : RW} {w : World} (h : Q0q.N o1 a4 a3 a2 a0 a1 R w) : Calls Try.prog 22 #[.pointer o1, .agg #[.slice a4 a3 a2, .int .i64 a0], .int .u64 a1] w fun e w' => ∃ v, e = .returned v ∧ R v w' := Q0q.ok o1 a4 a3 a2 a0 a1 (Q0q.up o1 a4 a3 a2 a0 a1 h)
abbrev Q0a.J1 (a0 : Int) (I2 : Nat → List Value → World → Prop) (az : Int) (ap b8 : Option Addr) (ba : Nat) (R : RW) (b5 : World) : Prop :=
 thenW (b5.drew) fun aa =>
 ap.elim False fun b4 =>
 ∃ (a5 : Option Addr) (a3 ae : Nat), aa.cell? (b4.add 2) = some (.slice a5 a3 ae) ∧
 a5.elim False fun ay =>
 0 ≤ (a0 : Int) ∧ (a0 : Int) < (a3 : Int) ∧
 ∃ (ar : Int), aa.cell? (ay.add (Int.toNat a0 * 1)) = some (.int .u64 ar) ∧
 ap.elim False fun b1 =>
 ∃ (a4 : Option Addr) (a2 a9 : Nat), aa.cell? (b1.add 3) = some (.slice a4 a2 a9) ∧
 a4.elim False fun b6 =>
 0 ≤ (a0 : Int) ∧ (a0 : Int) < (a2 : Int) ∧
 ∃ (an : Option Addr) (ak al : Nat), aa.cell? (b6.add (Int.toNat a0 * 1)) = some (.slice an ak al) ∧
 Calls Try.prog 48 #[.int .u64 (IntKind.u64.wrap a0)] aa fun av ad => ∃ (ag : Option Addr) (ah af : Nat), av = .returned (.slice ag ah af) ∧
 ad.cell? (b6.add (Int.toNat a0 * 1)) = some (.slice an ak al) ∧
 ad.cell? (b1.add 3) = some (.slice a4 a2 a9) ∧
 ad.cell? (ay.add (Int.toNat a0 * 1)) = some (.int .u64 ar) ∧
 ad.cell? (b4.add 2) = some (.slice a5 a3 ae) ∧
 Calls Try.prog 63 #[.pointer b8, .int .u64 ar, .slice ag ah af, .slice an ak al] ad fun aw am => ∃ (a7 : Option Addr) (a1 ai : Nat) (ab : Int), aw = .returned (.tuple #[.slice a7 a1 ai, .int .i64 ab]) ∧
 bif ab != 0 then (
 R (.int .i64 az) am) else (
 bif (a1 : Int) != 8 then (
 R (.int .i64 az) am) else (
 ∃ (I4 : Nat → List Value → World → Prop) (bb : Nat), I4 bb [.int .u64 0, .int .i64 0] am ∧ ∀ (b0 : Nat) (a6 : World) (aq aj : Int), I4 b0 [.int .u64 aq, .int .i64 aj] a6 →
 bif decide (aj < 8) then (
 a7.elim False fun b9 =>
 0 ≤ (aj : Int) ∧ (aj : Int) < (a1 : Int) ∧
 ∃ (b2 : Int), a6.cell? (b9.add (Int.toNat aj * 1)) = some (.int .u8 b2) ∧
 ∃ au, au < b0 ∧ I4 au [.int .u64 (IntKind.u64.wrap ((IntKind.u64.wrap (aq * 256)) + (IntKind.u64.wrap b2))), .int .i64 (IntKind.i64.wrap (aj + 1))] a6) else (
 ap.elim False fun bc =>
 ∃ (a8 : Option Addr) (ac ao : Nat), a6.cell? (bc.add 2) = some (.slice a8 ac ao) ∧
 a8.elim False fun b3 =>
 0 ≤ ((IntKind.i64.wrap (a0 - 1)) : Int) ∧ ((IntKind.i64.wrap (a0 - 1)) : Int) < (ac : Int) ∧
 Q0d a6 ((b3.add (Int.toNat (IntKind.i64.wrap (a0 - 1)) * 1)).add 0) ∧
 thenW (a6.setCell ((b3.add (Int.toNat (IntKind.i64.wrap (a0 - 1)) * 1)).add 0) (.int .u64 aq)) fun ax =>
 ∃ b7, b7 < ba ∧ I2 b7 [.int .i64 (IntKind.i64.wrap (a0 - 1))] ax)))

abbrev Q0a.J2 (ac : Int) (ab aj : Option Addr) (R : RW) (ad : World) : Prop :=
 ab.elim False fun an =>
 ∃ (a9 : Option Addr) (a5 aa : Nat), ad.cell? (an.add 2) = some (.slice a9 a5 aa) ∧
 ∃ (I2 : Nat → List Value → World → Prop) (ah : Nat), I2 ah [.int .i64 (IntKind.i64.wrap ((a5 : Int) - 1))] ad ∧ ∀ (af : Nat) (a1 : World) (a0 : Int), I2 af [.int .i64 a0] a1 →
 bif decide (a0 > 0) then (
 ab.elim False fun ak =>
 ∃ (a2 : Option Addr) (a6 a8 : Nat), a1.cell? (ak.add 2) = some (.slice a2 a6 a8) ∧
 a2.elim False fun am =>
 0 ≤ (a0 : Int) ∧ (a0 : Int) < (a6 : Int) ∧
 ∃ (ag : Int), a1.cell? (am.add (Int.toNat a0 * 1)) = some (.int .u64 ag) ∧
 bif ag != 0 then (
 ab.elim False fun ai =>
 ∃ (a3 : Option Addr) (a4 a7 : Nat), a1.cell? (ai.add 2) = some (.slice a3 a4 a7) ∧
 a3.elim False fun al =>
 0 ≤ ((IntKind.i64.wrap (a0 - 1)) : Int) ∧ ((IntKind.i64.wrap (a0 - 1)) : Int) < (a4 : Int) ∧
 ∃ (ae : Int), a1.cell? (al.add (Int.toNat (IntKind.i64.wrap (a0 - 1)) * 1)) = some (.int .u64 ae) ∧
 bif ae == 0 then (
 Q0a.J1 a0 I2 ac ab aj af R a1) else (
 R (.int .i64 ac) a1)) else (
 R (.int .i64 ac) a1)) else (
 R (.int .i64 ac) a1)

abbrev Q0a.J3 (bi : Addr) (b7 br : Option Addr) (R : RW) (bl : World) : Prop :=
 ∃ (I0 : Nat → List Value → World → Prop) (bs : Nat), I0 bs [.int .u64 0, .int .i64 11, .int .i64 0] bl ∧ ∀ (bm : Nat) (al : World) (au bo aw : Int), I0 bm [.int .u64 au, .int .i64 bo, .int .i64 aw] al →
 ∃ (ar : Option Addr) (ac ap : Nat), al.cell? (bi.add 4) = some (.slice ar ac ap) ∧
 bif decide (aw < (ac : Int)) then (
 thenW (al.drew) fun ao =>
 ∃ (a4 : Option Addr) (a3 ak : Nat), ao.cell? (bi.add 4) = some (.slice a4 a3 ak) ∧
 a4.elim False fun bq =>
 0 ≤ (aw : Int) ∧ (aw : Int) < (a3 : Int) ∧
 ∃ (am : Int), ao.cell? ((bq.add (Int.toNat aw * 2)).add 0) = some (.int .i64 am) ∧
 b7.elim False fun bp =>
 ∃ (av : Int), ao.cell? (bp.add 0) = some (.int .i64 av) ∧
 bif am == av then (
 thenW (ao.drew) fun ag =>
 b7.elim False fun bj =>
 ∃ (a5 : Int), ag.cell? (bj.add 1) = some (.int .u64 a5) ∧
 ∃ (a6 : Option Addr) (a9 aj : Nat), ag.cell? (bi.add 4) = some (.slice a6 a9 aj) ∧
 a6.elim False fun bk =>
 0 ≤ (aw : Int) ∧ (aw : Int) < (a9 : Int) ∧
 ∃ (b3 : Option Addr) (b4 az : Nat), ag.cell? ((bk.add (Int.toNat aw * 2)).add 1) = some (.slice b3 b4 az) ∧
 Calls Try.prog 62 #[.pointer br, .int .u64 a5, .slice b3 b4 az] ag fun bh b9 => ∃ (a8 a7 : Int), bh = .returned (.tuple #[.int .u64 a8, .int .i64 a7]) ∧
 ∃ be, be < bm ∧ I0 be [.int .u64 a8, .int .i64 a7, .int .i64 (IntKind.i64.wrap (aw + 1))] b9) else (
 ∃ bd, bd < bm ∧ I0 bd [.int .u64 au, .int .i64 bo, .int .i64 (IntKind.i64.wrap (aw + 1))] ao)) else (
 b7.elim False fun bn =>
 ∃ (ad : Option Addr) (aa ab : Nat), al.cell? (bn.add 2) = some (.slice ad aa ab) ∧
 thenW (al.alloc (.cells #[.int .u64 au] 36)) fun bb =>
 ∃ (ax : Option Addr) (b1 b2 : Nat) (aq : World), (Builtin.append_ #[22, 22] 22 #[.slice ad aa ab, .slice (some (blk al.heap.size)) 1 1]).run Try.prog bb = .ok (.slice ax b1 b2) aq ∧
 b7.elim False fun bc =>
 Q0d aq ((bc.add 2).add 0) ∧
 thenW (aq.setCell ((bc.add 2).add 0) (.slice ax b1 b2)) fun ba =>
 thenW (ba.drew) fun af =>
 b7.elim False fun b8 =>
 ∃ (a0 : Option Addr) (a2 a1 : Nat), af.cell? (b8.add 3) = some (.slice a0 a2 a1) ∧
 ∃ (ai : Option Addr) (ah ae : Nat), af.cell? (bi.add 5) = some (.slice ai ah ae) ∧
 thenW (af.alloc (.cells #[.slice ai ah ae] 25)) fun b5 =>
 b5.cell? (b8.add 3) = some (.slice a0 a2 a1) ∧
 ∃ (b6 : Option Addr) (b0 ay : Nat) (an : World), (Builtin.append_ #[59, 59] 59 #[.slice a0 a2 a1, .slice (some (blk af.heap.size)) 1 1]).run Try.prog b5 = .ok (.slice b6 b0 ay) an ∧
 b7.elim False fun bg =>
 Q0d an ((bg.add 3).add 0) ∧
 thenW (an.setCell ((bg.add 3).add 0) (.slice b6 b0 ay)) fun bf =>
 Q0a.J2 bo b7 br R bf)

abbrev Q0a.J4 (a5 : Addr) (a4 a6 : Option Addr) (R : RW) (a3 : World) : Prop :=
 a4.elim False fun a7 =>
 ∃ (a2 : Option Addr) (a0 a1 : Nat), a3.cell? (a7.add 2) = some (.slice a2 a0 a1) ∧
 bif decide ((a0 : Int) ≥ 20) then (
 R (.int .i64 3) a3) else (
 Q0a.J3 a5 a4 a6 R a3)

def Q0a.M (r1 o2 : Option Addr) (ak am ad ag : Int) (ac : Option Addr) (ae af : Nat) (aj : Option Addr) (ai al : Nat) (R : RW) (w : World) : Prop :=
 thenW (w.alloc (.cells #[.int .i64 ak, .int .i64 am, .int .u64 ad, .int .i64 ag, .slice ac ae af, .slice aj ai al] 77)) fun ao =>
 ∃ (a7 ab a0 a4 : Int) (a1 : Option Addr) (a3 a2 : Nat) (a8 : Option Addr) (a5 a6 : Nat), cellsAt ao (blk w.heap.size) [.int .i64 a7, .int .i64 ab, .int .u64 a0, .int .i64 a4, .slice a1 a3 a2, .slice a8 a5 a6] 0 ∧
 Calls Try.prog 54 #[.agg #[.int .i64 a7, .int .i64 ab, .int .u64 a0, .int .i64 a4, .slice a1 a3 a2, .slice a8 a5 a6]] ao fun an ah => ∃ (a9 : Bool), an = .returned (.bool a9) ∧
 bif !a9 then (
 R (.int .i64 1) ah) else (
 ∃ (aa : Int), ah.cell? ((blk w.heap.size).add 0) = some (.int .i64 aa) ∧
 bif aa != 3 then (
 R (.int .i64 1) ah) else (
 Q0a.J4 (blk w.heap.size) r1 o2 R ah))

theorem Q0a.ok (r1 o2 : Option Addr) (a7 a9 a0 a4 : Int) (a2 : Option Addr) (a1 a3 : Nat) (a5 : Option Addr) (a6 a8 : Nat) {R : RW} {w : World} (h : Q0a.M r1 o2 a7 a9 a0 a4 a2 a1 a3 a5 a6 a8 R w) : Calls Try.prog 26 #[.pointer r1, .pointer o2, .agg #[.int .i64 a7, .int .i64 a9, .int .u64 a0, .int .i64 a4, .slice a2 a1 a3, .slice a5 a6 a8]] w fun e w' => ∃ v, e = .returned v ∧ R v w' :=
  Q0i follows (H := [(0, [0, 1, 5], [(7, (.one (.int .u64))), (8, (.one (.int .i64))), (9, (.one (.int .i64)))]), (2, [0, 1, 8], [(10, (.one (.int .i64)))]), (4, [0, 1, 8, 10, 11], [(13, (.one (.int .u64))), (14, (.one (.int .i64)))])]) (args := [.pointer r1, .pointer o2, .agg #[.int .i64 a7, .int .i64 a9, .int .u64 a0, .int .i64 a4, .slice a2 a1 a3, .slice a5 a6 a8]]) (cast (by kernel_rfl) h)

def Q0a.N (r1 o2 : Option Addr) (ar c9 bd bm : Int) (aj : Option Addr) (a1 bj : Nat) (b5 : Option Addr) (b9 bf : Nat) (R : RW) (w : World) : Prop :=
 ∀ (cp : World) (cb : Nat), Ext no w cp → Priv w cp [cb] →
 Calls Try.prog 54 #[.agg #[.int .i64 ar, .int .i64 c9, .int .u64 bd, .int .i64 bm, .slice aj a1 bj, .slice b5 b9 bf]] cp fun cz b3 => ∃ (ae : Bool), cz = .returned (.bool ae) ∧
 Keep [cb] cp b3 ∧
 (ae = false →
 R (.int .i64 1) b3) ∧
 (ae = true →
 (ar ≠ 3 →
 R (.int .i64 1) b3) ∧
 (ar = 3 →
 ∃ a7 : Addr, r1 = some a7 ∧
 ∃ (bl : Option Addr) (aa bo : Nat), b3.cell? (a7.add 2) = some (.slice bl aa bo) ∧
 ((aa : Int) ≥ 20 →
 R (.int .i64 3) b3) ∧
 ((aa : Int) < 20 →
 ∃ (I0 : Nat → List Value → World → Prop) (d9 : Nat), I0 d9 [.int .u64 0, .int .i64 11, .int .i64 0] b3 ∧ ∀ (ct : Nat) (a5 : World) (bh bv aq : Int), I0 ct [.int .u64 bh, .int .i64 bv, .int .i64 aq] a5 →
 (aq < (a1 : Int) →
 ∃ d0 : Addr, aj = some d0 ∧
 0 ≤ (aq : Int) ∧ (aq : Int) < (a1 : Int) ∧
 ∃ (bk : Int), a5.cell? ((d0.add (Int.toNat aq * 2)).add 0) = some (.int .i64 bk) ∧
 ∃ (b4 : Int), a5.cell? (a7.add 0) = some (.int .i64 b4) ∧
 (bk = b4 →
 ∃ (ao : Int), a5.cell? (a7.add 1) = some (.int .u64 ao) ∧
 0 ≤ (aq : Int) ∧ (aq : Int) < (a1 : Int) ∧
 ∃ (ci : Option Addr) (cd ch : Nat), a5.cell? ((d0.add (Int.toNat aq * 2)).add 1) = some (.slice ci cd ch) ∧
 ∀ (c2 : World), Ext no a5 c2 →
 Calls Try.prog 62 #[.pointer o2, .int .u64 ao, .slice ci cd ch] c2 fun d2 cm => ∃ (ak an : Int), d2 = .returned (.tuple #[.int .u64 ak, .int .i64 an]) ∧
 Keep [cb] c2 cm ∧
 (-9223372036854775808 : Int) ≤ (aq + 1) ∧ (aq + 1) < 9223372036854775808 ∧
 ∃ d4, d4 < ct ∧ I0 d4 [.int .u64 ak, .int .i64 an, .int .i64 (aq + 1)] cm) ∧
 (bk ≠ b4 →
 (-9223372036854775808 : Int) ≤ (aq + 1) ∧ (aq + 1) < 9223372036854775808 ∧
 ∀ (cl : World), Ext no a5 cl →
 ∃ d6, d6 < ct ∧ I0 d6 [.int .u64 bh, .int .i64 bv, .int .i64 (aq + 1)] cl)) ∧
 ((a1 : Int) ≤ aq →
 ∃ (b0 : Option Addr) (ax az : Nat), a5.cell? (a7.add 2) = some (.slice b0 ax az) ∧
 ∀ (bg : World) (cr : Nat), Ext no a5 bg → Blk bg cr 36 [.int .u64 bh] → a5.heap.size ≤ cr → cr < bg.heap.size →
 ∃ (c8 : Option Addr) (c6 cc : Nat) (bq : World), (Builtin.append_ #[22, 22] 22 #[.slice b0 ax az, .slice (some (blk cr)) 1 1]).run Try.prog bg = .ok (.slice c8 c6 cc) bq ∧
 Keep [cb] bg bq ∧
 Q0d bq ((a7.add 2).add 0) ∧
 (∀ p ∈ [cb], p ≠ Addr.block (a7.add 2)) ∧
 thenW (bq.setCell ((a7.add 2).add 0) (.slice c8 c6 cc)) fun bt =>
 ∃ (a8 : Option Addr) (ab ad : Nat), bt.cell? (a7.add 3) = some (.slice a8 ab ad) ∧
 ∀ (b6 : World) (cq : Nat), Ext no bt b6 → Blk b6 cq 25 [.slice b5 b9 bf] → bt.heap.size ≤ cq → cq < b6.heap.size →
 b6.cell? (a7.add 3) = some (.slice a8 ab ad) ∧
 ∃ (cj : Option Addr) (c5 c3 : Nat) (bu : World), (Builtin.append_ #[59, 59] 59 #[.slice a8 ab ad, .slice (some (blk cq)) 1 1]).run Try.prog b6 = .ok (.slice cj c5 c3) bu ∧
 Q0d bu ((a7.add 3).add 0) ∧
 thenW (bu.setCell ((a7.add 3).add 0) (.slice cj c5 c3)) fun ce =>
 ∃ (br : Option Addr) (a4 bs : Nat), ce.cell? (a7.add 2) = some (.slice br a4 bs) ∧
 (-9223372036854775808 : Int) ≤ ((a4 : Int) - 1) ∧ ((a4 : Int) - 1) < 9223372036854775808 ∧
 ∃ (I2 : Nat → List Value → World → Prop) (d8 : Nat), I2 d8 [.int .i64 ((a4 : Int) - 1)] ce ∧ ∀ (d3 : Nat) (a3 : World) (a0 : Int), I2 d3 [.int .i64 a0] a3 →
 (a0 > 0 →
 ∃ (aw : Option Addr) (au bp : Nat), a3.cell? (a7.add 2) = some (.slice aw au bp) ∧
 ∃ d7 : Addr, aw = some d7 ∧
 0 ≤ (a0 : Int) ∧ (a0 : Int) < (au : Int) ∧
 ∃ (cw : Int), a3.cell? (d7.add (Int.toNat a0 * 1)) = some (.int .u64 cw) ∧
 (cw ≠ 0 →
 ∃ (ay : Option Addr) (b1 bn : Nat), a3.cell? (a7.add 2) = some (.slice ay b1 bn) ∧
 (-9223372036854775808 : Int) ≤ (a0 - 1) ∧ (a0 - 1) < 9223372036854775808 ∧
 ∃ d5 : Addr, ay = some d5 ∧
 0 ≤ ((a0 - 1) : Int) ∧ ((a0 - 1) : Int) < (b1 : Int) ∧
 ∃ (cy : Int), a3.cell? (d5.add (Int.toNat (a0 - 1) * 1)) = some (.int .u64 cy) ∧
 (cy = 0 →
 ∃ (af : Option Addr) (a9 av : Nat), a3.cell? (a7.add 2) = some (.slice af a9 av) ∧
 ∃ d1 : Addr, af = some d1 ∧
 0 ≤ (a0 : Int) ∧ (a0 : Int) < (a9 : Int) ∧
 ∃ (cu : Int), a3.cell? (d1.add (Int.toNat a0 * 1)) = some (.int .u64 cu) ∧
 ∃ (ai : Option Addr) (ac b2 : Nat), a3.cell? (a7.add 3) = some (.slice ai ac b2) ∧
 ∃ cv : Addr, ai = some cv ∧
 0 ≤ (a0 : Int) ∧ (a0 : Int) < (ac : Int) ∧
 ∃ (c1 : Option Addr) (bz bw : Nat), a3.cell? (cv.add (Int.toNat a0 * 1)) = some (.slice c1 bz bw) ∧
 ∀ (co : World), Ext no a3 co →
 Calls Try.prog 48 #[.int .u64 (IntKind.u64.wrap a0)] co fun cs b7 => ∃ (ba : Option Addr) (b8 bc : Nat), cs = .returned (.slice ba b8 bc) ∧
 b7.cell? (cv.add (Int.toNat a0 * 1)) = some (.slice c1 bz bw) ∧
 b7.cell? (a7.add 3) = some (.slice ai ac b2) ∧
 b7.cell? (d1.add (Int.toNat a0 * 1)) = some (.int .u64 cu) ∧
 b7.cell? (a7.add 2) = some (.slice af a9 av) ∧
 Calls Try.prog 63 #[.pointer o2, .int .u64 cu, .slice ba b8 bc, .slice c1 bz bw] b7 fun ck be => ∃ (ap : Option Addr) (a2 bb : Nat) (ag : Int), ck = .returned (.tuple #[.slice ap a2 bb, .int .i64 ag]) ∧
 (ag ≠ 0 →
 R (.int .i64 bv) be) ∧
 (ag = 0 →
 ((a2 : Int) ≠ 8 →
 R (.int .i64 bv) be) ∧
 ((a2 : Int) = 8 →
 ∃ (I4 : Nat → List Value → World → Prop) (cx : Nat), I4 cx [.int .u64 0, .int .i64 0] be ∧ ∀ (cf : Nat) (a6 : World) (c0 ah : Int), I4 cf [.int .u64 c0, .int .i64 ah] a6 →
 (ah < 8 →
 ∃ c7 : Addr, ap = some c7 ∧
 0 ≤ (ah : Int) ∧ (ah : Int) < (a2 : Int) ∧
 ∃ (cg : Int), a6.cell? (c7.add (Int.toNat ah * 1)) = some (.int .u8 cg) ∧
 (-9223372036854775808 : Int) ≤ (ah + 1) ∧ (ah + 1) < 9223372036854775808 ∧
 ∃ c4, c4 < cf ∧ I4 c4 [.int .u64 (IntKind.u64.wrap ((IntKind.u64.wrap (c0 * 256)) + (IntKind.u64.wrap cg))), .int .i64 (ah + 1)] a6) ∧
 ((8 : Int) ≤ ah →
 ∃ (al : Option Addr) (am bi : Nat), a6.cell? (a7.add 2) = some (.slice al am bi) ∧
 (-9223372036854775808 : Int) ≤ (a0 - 1) ∧ (a0 - 1) < 9223372036854775808 ∧
 ∃ bx : Addr, al = some bx ∧
 0 ≤ ((a0 - 1) : Int) ∧ ((a0 - 1) : Int) < (am : Int) ∧
 Q0d a6 ((bx.add (Int.toNat (a0 - 1) * 1)).add 0) ∧
 thenW (a6.setCell ((bx.add (Int.toNat (a0 - 1) * 1)).add 0) (.int .u64 c0)) fun ca =>
 (-9223372036854775808 : Int) ≤ (a0 - 1) ∧ (a0 - 1) < 9223372036854775808 ∧
 ∃ cn, cn < d3 ∧ I2 cn [.int .i64 (a0 - 1)] ca)))) ∧
 (cy ≠ 0 →
 R (.int .i64 bv) a3)) ∧
 (cw = 0 →
 R (.int .i64 bv) a3)) ∧
 (a0 ≤ 0 →
 R (.int .i64 bv) a3)))))

theorem Q0a.up (r1 o2 : Option Addr) (aa ad a4 a6 : Int) (a0 : Option Addr) (a1 a2 : Nat) (a7 : Option Addr) (a8 a9 : Nat) {R : RW} {w : World} (h : Q0a.N r1 o2 aa ad a4 a6 a0 a1 a2 a7 a8 a9 R w) : Q0a.M r1 o2 aa ad a4 a6 a0 a1 a2 a7 a8 a9 R w := by
  unfold Q0a.M
  unfold Q0a.N at h
  refine Q01 fun en e9 => ?_
  have a3 := Blk.of_new e9
  have eb := ((Ext.refl no w)).size
  have ep := (Ext.refl no w).x_alloc e9
  refine ⟨aa, ad, a4, a6, a0, a1, a2, a7, a8, a9, ⟨a3.celli 0 rfl rfl, a3.celli 1 rfl rfl, a3.celli 2 rfl rfl, a3.celli 3 rfl rfl, a3.celli 4 rfl rfl, a3.celli 5 rfl rfl, trivial⟩, ?_⟩
  have h := h en (w.heap.size) ep (Priv.cons eb a3.lt Priv.nil)
  refine h.mono fun eo e4 h => ?_
  obtain ⟨b3, he, hk, h⟩ := h
  refine ⟨b3, he, ?_⟩
  have a3 := hk.blk a3 (by simp)
  refine bif_of (fun ci => ?_) (fun ci => ?_)
  ·have h := h.1 (not_t ci)
   exact h
  have h := h.2 (not_f ci)
  refine ⟨aa, a3.celli 0 rfl rfl, ?_⟩
  refine bif_of (fun cm => ?_) (fun cm => ?_)
  ·have h := h.1 (bne_t cm)
   exact h
  have h := h.2 (bne_f cm)
  unfold Q0a.J4
  obtain ⟨ev, a5, h⟩ := h
  refine Q05 a5 ?_
  obtain ⟨ax, aw, b9, d2, h⟩ := h
  refine ⟨ax, aw, b9, d2, ?_⟩
  refine bif_of (fun dm => ?_) (fun dm => ?_)
  ·have h := h.1 (of_decide_eq_true dm)
   exact h
  have h := h.2 (Int.not_le.1 (of_decide_eq_false dm))
  unfold Q0a.J3
  obtain ⟨I0, em, h0, h⟩ := h
  refine ⟨fun k vs ww => Blk ww w.heap.size 77 [.int .i64 aa, .int .i64 ad, .int .u64 a4, .int .i64 a6, .slice a0 a1 a2, .slice a7 a8 a9] ∧ I0 k vs ww, em, ⟨a3, h0⟩, fun e7 ap c0 ei ed hI => ?_⟩
  obtain ⟨a3, hI⟩ := hI
  have h := h e7 ap c0 ei ed hI
  refine ⟨a0, a1, a2, a3.celli 4 rfl rfl, ?_⟩
  refine bif_of (fun d8 => ?_) (fun d8 => ?_)
  ·have h := h.1 (of_decide_eq_true d8)
   refine Q01 fun dl e0 => ?_
   have be := (Ext.refl no ap).x_drew e0
   have a3 := a3.x_drew e0
   refine ⟨a0, a1, a2, a3.celli 4 rfl rfl, ?_⟩
   obtain ⟨ew, bx, h⟩ := h
   refine Q05 bx ?_
   obtain ⟨ac, ab, h⟩ := h
   refine ⟨ac, ab, ?_⟩
   obtain ⟨c1, ce, h⟩ := h
   refine ⟨c1, (be).cell ce id, ?_⟩
   refine Q05 a5 ?_
   obtain ⟨bs, du, h⟩ := h
   refine ⟨bs, (be).cell du id, ?_⟩
   refine bif_fo (fun cb => ?_) (fun cb => ?_)
   ·have h := h.2 (beq_f cb)
    obtain ⟨ae, af, h⟩ := h
    try rw [w64 ae af]
    have h := h dl be
    obtain ⟨et, hk, h⟩ := h
    exact ⟨et, hk, a3, h⟩
   have h := h.1 (beq_t cb)
   refine Q01 fun dt dz => ?_
   have bl := be.x_drew dz
   have a3 := a3.x_drew dz
   refine Q05 a5 ?_
   obtain ⟨an, dn, h⟩ := h
   refine ⟨an, (bl).cell dn id, ?_⟩
   refine ⟨a0, a1, a2, a3.celli 4 rfl rfl, ?_⟩
   refine Q05 bx ?_
   obtain ⟨ac, ab, h⟩ := h
   refine ⟨ac, ab, ?_⟩
   obtain ⟨db, cs, d9, c6, h⟩ := h
   refine ⟨db, cs, d9, (bl).cell c6 id, ?_⟩
   have h := h dt bl
   refine h.mono fun es er h => ?_
   obtain ⟨ag, al, he, hk, h⟩ := h
   refine ⟨ag, al, he, ?_⟩
   have a3 := hk.blk a3 (by simp)
   obtain ⟨ae, af, h⟩ := h
   try rw [w64 ae af]
   obtain ⟨ef, hk, h⟩ := h
   exact ⟨ef, hk, a3, h⟩
  have h := h.2 (Int.not_lt.1 (of_decide_eq_false d8))
  refine Q05 a5 ?_
  obtain ⟨bf, b4, bc, d4, h⟩ := h
  refine ⟨bf, b4, bc, d4, ?_⟩
  refine Q01 fun cy c3 => ?_
  have a3 := a3.x_alloc c3
  have h := h cy ap.heap.size ((Ext.refl no ap).x_alloc c3) (Blk.of_new c3) ((Ext.refl no ap)).size (Q0x c3)
  obtain ⟨cn, cg, cr, dd, hr, hk, h⟩ := h
  refine ⟨cn, cg, cr, dd, hr, ?_⟩
  have a3 := hk.blk a3 (by simp)
  refine Q05 a5 ?_
  obtain ⟨hcs, hof, h⟩ := h
  refine ⟨hcs, Q01 fun cl e2 => ?_⟩
  replace h := Q1d h e2
  have a3 := a3.off (by rw [Q1a]; exact hof _ (by simp)) e2
  refine Q01 fun cc e3 => ?_
  have bq := (Ext.refl no cl).x_drew e3
  have a3 := a3.x_drew e3
  refine Q05 a5 ?_
  obtain ⟨ar, b0, b2, dq, h⟩ := h
  refine ⟨ar, b0, b2, (bq).cell dq id, ?_⟩
  refine ⟨a7, a8, a9, a3.celli 5 rfl rfl, ?_⟩
  refine Q01 fun cd cw => ?_
  have h := h cd cc.heap.size (bq.x_alloc cw) (Blk.of_new cw) (bq).size (Q0x cw)
  obtain ⟨d3, h⟩ := h
  refine ⟨d3, ?_⟩
  obtain ⟨de, ca, c5, cp, hr, h⟩ := h
  refine ⟨de, ca, c5, cp, hr, ?_⟩
  refine Q05 a5 ?_
  obtain ⟨hcs, h⟩ := h
  refine ⟨hcs, Q01 fun eh eq => ?_⟩
  replace h := Q1d h eq
  unfold Q0a.J2
  refine Q05 a5 ?_
  obtain ⟨bd, bh, bg, c4, h⟩ := h
  refine ⟨bd, bh, bg, c4, ?_⟩
  obtain ⟨ae, af, h⟩ := h
  try rw [w64 ae af]
  obtain ⟨I2, ek, h0, h⟩ := h
  refine ⟨I2, ek, h0, fun e8 bz dc hI => ?_⟩
  have h := h e8 bz dc hI
  refine bif_fo (fun ch => ?_) (fun ch => ?_)
  ·have h := h.2 (Int.not_lt.1 (of_decide_eq_false ch))
   exact h
  have h := h.1 (of_decide_eq_true ch)
  refine Q05 a5 ?_
  obtain ⟨az, av, bb, ct, h⟩ := h
  refine ⟨az, av, bb, ct, ?_⟩
  obtain ⟨ez, dh, h⟩ := h
  refine Q05 dh ?_
  obtain ⟨ac, ab, h⟩ := h
  refine ⟨ac, ab, ?_⟩
  obtain ⟨eg, dk, h⟩ := h
  refine ⟨eg, dk, ?_⟩
  refine bif_fo (fun cu => ?_) (fun cu => ?_)
  ·have h := h.2 (bne_f cu)
   exact h
  have h := h.1 (bne_t cu)
  refine Q05 a5 ?_
  obtain ⟨b7, bi, b8, co, h⟩ := h
  refine ⟨b7, bi, b8, co, ?_⟩
  obtain ⟨ae, af, h⟩ := h
  try rw [w64 ae af]
  obtain ⟨ey, dg, h⟩ := h
  refine Q05 dg ?_
  obtain ⟨ac, ab, h⟩ := h
  refine ⟨ac, ab, ?_⟩
  obtain ⟨ej, da, h⟩ := h
  refine ⟨ej, da, ?_⟩
  refine bif_fo (fun cx => ?_) (fun cx => ?_)
  ·have h := h.2 (beq_f cx)
   exact h
  have h := h.1 (beq_t cx)
  unfold Q0a.J1
  refine Q01 fun dv ec => ?_
  have aq := (Ext.refl no bz).x_drew ec
  refine Q05 a5 ?_
  obtain ⟨b5, au, ay, ds, h⟩ := h
  refine ⟨b5, au, ay, (aq).cell ds id, ?_⟩
  obtain ⟨ex, cq, h⟩ := h
  refine Q05 cq ?_
  obtain ⟨ac, ab, h⟩ := h
  refine ⟨ac, ab, ?_⟩
  obtain ⟨ee, c8, h⟩ := h
  refine ⟨ee, (aq).cell c8 id, ?_⟩
  refine Q05 a5 ?_
  obtain ⟨ba, b1, bj, di, h⟩ := h
  refine ⟨ba, b1, bj, (aq).cell di id, ?_⟩
  obtain ⟨eu, dj, h⟩ := h
  refine Q05 dj ?_
  obtain ⟨ac, ab, h⟩ := h
  refine ⟨ac, ab, ?_⟩
  obtain ⟨dp, d6, cz, c9, h⟩ := h
  refine ⟨dp, d6, cz, (aq).cell c9 id, ?_⟩
  have h := h dv aq
  refine h.mono fun e5 e6 h => ?_
  obtain ⟨bo, bn, bp, he, h⟩ := h
  refine ⟨bo, bn, bp, he, ?_⟩
  obtain ⟨ck, cj, d7, dw, h⟩ := h
  refine ⟨ck, cj, d7, dw, ?_⟩
  refine h.mono fun e1 dy h => ?_
  obtain ⟨ao, aj, ah, b6, he, h⟩ := h
  refine ⟨ao, aj, ah, b6, he, ?_⟩
  refine bif_of (fun bk => ?_) (fun bk => ?_)
  ·have h := h.1 (bne_t bk)
   exact h
  have h := h.2 (bne_f bk)
  refine bif_of (fun bm => ?_) (fun bm => ?_)
  ·have h := h.1 (bne_t bm)
   exact h
  have h := h.2 (bne_f bm)
  obtain ⟨I4, cv, h0, h⟩ := h
  refine ⟨I4, cv, h0, fun d0 bw df d1 hI => ?_⟩
  have h := h d0 bw df d1 hI
  refine bif_of (fun br => ?_) (fun br => ?_)
  ·have h := h.1 (of_decide_eq_true br)
   obtain ⟨ea, c2, h⟩ := h
   refine Q05 c2 ?_
   obtain ⟨ac, ab, h⟩ := h
   refine ⟨ac, ab, ?_⟩
   obtain ⟨d5, bv, h⟩ := h
   refine ⟨d5, bv, ?_⟩
   obtain ⟨ae, af, h⟩ := h
   try rw [w64 ae af]
   obtain ⟨c7, hk, h⟩ := h
   exact ⟨c7, hk, h⟩
  have h := h.2 (Int.not_lt.1 (of_decide_eq_false br))
  refine Q05 a5 ?_
  obtain ⟨ai, ak, am, bu, h⟩ := h
  refine ⟨ai, ak, am, bu, ?_⟩
  obtain ⟨ae, af, h⟩ := h
  try rw [w64 ae af]
  obtain ⟨el, bt, h⟩ := h
  refine Q05 bt ?_
  obtain ⟨ac, ab, h⟩ := h
  refine ⟨ac, ab, ?_⟩
  obtain ⟨hcs, h⟩ := h
  refine ⟨hcs, Q01 fun dx cf => ?_⟩
  replace h := Q1d h cf
  obtain ⟨ae, af, h⟩ := h
  try rw [w64 ae af]
  obtain ⟨dr, hk, h⟩ := h
  exact ⟨dr, hk, h⟩

theorem Q0a.go (r1 o2 : Option Addr) (a7 a9 a0 a4 : Int) (a2 : Option Addr) (a1 a3 : Nat) (a5 : Option Addr) (a6 a8 : Nat) {R : RW} {w : World} (h : Q0a.N r1 o2 a7 a9 a0 a4 a2 a1 a3 a5 a6 a8 R w) : Calls Try.prog 26 #[.pointer r1, .pointer o2, .agg #[.int .i64 a7, .int .i64 a9, .int .u64 a0, .int .i64 a4, .slice a2 a1 a3, .slice a5 a6 a8]] w fun e w' => ∃ v, e = .returned v ∧ R v w' := Q0a.ok r1 o2 a7 a9 a0 a4 a2 a1 a3 a5 a6 a8 (Q0a.up r1 o2 a7 a9 a0 a4 a2 a1 a3 a5 a6 a8 h)
theorem Q0a.run (r1 o2 : Option Addr) (a7 a9 a0 a4 : Int) (a2 : Option Addr) (a1 a3 : Nat) (a5 : Option Addr) (a6 a8 : Nat) {V : Value} {Q : World → Prop} {w : World} (h : Q0a.N r1 o2 a7 a9 a0 a4 a2 a1 a3 a5 a6 a8 (fun v w' => v = V ∧ Q w') w) : Calls Try.prog 26 #[.pointer r1, .pointer o2, .agg #[.int .i64 a7, .int .i64 a9, .int .u64 a0, .int .i64 a4, .slice a2 a1 a3, .slice a5 a6 a8]] w (Ret V Q) := (Q0a.go r1 o2 a7 a9 a0 a4 a2 a1 a3 a5 a6 a8 h).mono fun e w' ⟨v, he, hv, hq⟩ => ⟨by rw [he, hv], hq⟩

end Go.Proofs.Ytgeakpldocfccaa
set_option linter.unusedSectionVars false
namespace Go.Mx
open Go
section
variable {P : Program} {w w' : World} {q k : Nat} {t e : TypeId} {cs vs : List Value}
theorem Q3l : ∀ {vs cur : List Value} {j m : Nat}, (setAll cur j vs).take m = setAll (cur.take m) j vs
  | [], _, _, _ => rfl
  | v :: r, cur, j, m => by rw [setAll, setAll, Q3l, List.take_set]
theorem Grows.put {w : World} {o : Own} {sz n c g j : Nat} {a : Option Addr} (h : Grows e sz w o g a n c cs) (ok : Tags w o) (hc : cs ≠ []) :
    ∃ b cur, a = some (blk b) ∧ Blk w b e cur ∧ cs.length ≤ cur.length ∧ o b = some g ∧ b < w.heap.size ∧
      ∀ w', Ext (fun x => x = b) w w' → Blk w' b e (setAll cur j vs) → Step (fun i => i = g) w o w' (grow w o) ∧ Grows e sz w' (grow w o) g a n c (setAll cs j vs) := by
  rcases h.own.2 with ⟨hv, h0⟩ | ⟨b, cap, cur, hv, hle, hgb, hnc, hcm, hcs, htk⟩
  · exact absurd (by have := h.own.1; rw [h0] at this; exact List.eq_nil_of_length_eq_zero (by omega)) hc
  cases hv
  have tg := h.tg ⟨b, 0, none⟩ rfl
  have hblk : Blk w b e cur.toList := by unfold Blk; simpa using hgb
  have hcl : cur.toList.length = c * sz := by simpa using hcs
  refine ⟨b, cur.toList, rfl, hblk, ?_, tg.1, tg.2, fun w' X hb' => ?_⟩
  · have := congrArg List.length htk
    rw [List.length_take] at this; omega
  have s : Step (fun i => i = g) w o w' (grow w o) := Step.of_ext X ok fun q hq _ => by subst hq; exact tg.1
  refine ⟨s, ⟨by rw [Q20]; exact h.own.1, .inr ⟨b, c, (setAll cur.toList j vs).toArray, rfl, Nat.zero_le _, hb', hnc, hcm, by simpa [Q20] using hcs, ?_⟩⟩, fun ad ha => ?_⟩
  · show (setAll cur.toList j vs).take (n * sz) = _
    rw [Q3l, htk]
  · cases ha; exact ⟨(s.own tg.2).trans tg.1, Nat.lt_of_lt_of_le tg.2 s.size⟩
theorem Grows.ne {w : World} {o : Own} {sz n c g b : Nat} {a : Option Addr} {cs' : List Value} (h : Grows e sz w o g a n c cs) (hb : Blk w b t cs') (hte : t ≠ e) : ∀ ad, a = some ad → ad.block ≠ b := by
  intro ad ha hq
  rcases h.own.2 with ⟨hv, h0⟩ | ⟨q, cap, cur, hv, hle, hgb, _⟩
  · cases hv; cases ha
  · cases hv; cases ha
    simp only at hq
    subst hq
    unfold Blk at hb
    rw [hb] at hgb
    cases hgb
    exact hte rfl
theorem Grows.apart {w : World} {o : Own} {e2 sz sz2 n n2 c c2 g g2 : Nat} {a a2 : Option Addr} {cs2 : List Value} (h : Grows e sz w o g a n c cs) (h2 : Grows e2 sz2 w o g2 a2 n2 c2 cs2) (hte : e ≠ e2) : ∀ x y, a = some x → a2 = some y → x.block ≠ y.block := by
  intro x y hx hy hq
  rcases h2.own.2 with ⟨hv, h0⟩ | ⟨q, cap, cur, hv, hle, hgb, _⟩
  · cases hv; cases hy
  · cases hv; cases hy
    exact h.ne (b := q) (t := e2) (cs' := cur.toList) (by unfold Blk; simpa using hgb) (Ne.symm hte) x hx hq
end
end Go.Mx
set_option maxRecDepth 20000
set_option maxHeartbeats 2000000
namespace Go.Proofs.Ytgeakpldocfccaa
open Go Go.Mx Go.Proofs
open W (OwnB GivesW)
def boundE (e : Int) : List UInt8 := numL e.toNat
theorem Q4n (e : Int) : (boundE e).length ≤ 10 := numF_le _ _
section
variable {w w' w1 : World} {o o' o1 : Own} {q k p N m : Nat} {K : Nat → Prop} {b : List UInt8} {a : Option Addr} {c : Nat}
theorem Q3L {e : Int} (h0 : 0 ≤ e) (h1 : e < 9223372036854775808) (w : World) : Calls Try.prog 42 #[.int .i64 e] w (fun x w' => ∃ a' c', x = .returned (.slice a' (boundE e).length c') ∧ OwnB w.heap.size w' a' c' (boundE e) ∧ Ext no w w') := by
  refine (Q1c.go _ (R := fun v w' => ∃ a' c', v = (.slice a' (boundE e).length c') ∧ OwnB w.heap.size w' a' c' (boundE e) ∧ Ext no w w') ?_).mono fun x w' ⟨v, he, a', c', hv, hw⟩ => ⟨a', c', by rw [he, hv], hw⟩
  unfold Q1c.N
  have hw : IntKind.u64.wrap e = ((e.toNat : Nat) : Int) := by rw [wu64 (by omega) (by omega)]; omega
  rw [hw]
  refine (W.Num_spec (bs := []) (c := 0) (RowAt.nil w none) (by decide) (n := e.toNat) (by omega)).mono fun x w4 ⟨a', c', he, ho, hx⟩ => ⟨a', _, c', he, a', c', rfl, ho, hx⟩
theorem Q1D (h : OwnB w.heap.size w' a c b) (X : Ext no w w') : Row w' (grow w o) a (bytesV b) := Row.fresh h.row fun ad ha => (h.fr ad ha).1
theorem eightN (h t : Nat) : (List.range (t + 1)).map (byteAt h) = (List.range t).map (byteAt h) ++ [byteAt h t] := by rw [List.range_succ, List.map_append]; rfl
theorem Q5v {h : Nat} (hh : h < 18446744073709551616) (w : World) :
    Calls Try.prog 43 #[.int .u64 h] w (fun e w' => ∃ a' c', e = .returned (.slice a' (boxL h 0).length c') ∧ OwnB w.heap.size w' a' c' (boxL h 0) ∧ Ext no w w') := by
  refine (Q13.go _ (R := fun v w' => ∃ a' c', v = .slice a' (boxL h 0).length c' ∧ OwnB w.heap.size w' a' c' (boxL h 0) ∧ Ext no w w') ?_).mono fun e w' ⟨v, he, a', c', hv, hw⟩ => ⟨a', c', by rw [he, hv], hw⟩
  unfold Q13.N
  refine ⟨fun m vs w1 => ∃ (t : Nat) (a : Option Addr) (c : Nat), vs = [.slice a ((List.range t).map (byteAt h)).length c, .int .i64 t] ∧ m + t = 8 ∧ OwnB w.heap.size w1 a c ((List.range t).map (byteAt h)) ∧ Ext no w w1, 8, ⟨0, none, 0, rfl, rfl, OwnB.nil _ _, Ext.refl _ _⟩, ?_⟩
  rintro m w1 ba bn bc i ⟨t, a, c, hi, hq, hO, X1⟩
  simp only [List.cons.injEq, Value.int.injEq, Value.slice.injEq, true_and, and_true] at hi
  obtain ⟨⟨rfl, rfl, rfl⟩, rfl⟩ := hi
  refine ⟨fun ht => ?_, fun ht => ?_⟩
  · have ht : t < 8 := by omega
    refine ⟨by omega, by omega, by omega, by omega, by omega, fun w9 q10 X9 hb hq10 hq10' => ?_⟩
    have hb' : Blk w9 q10 5 (bytesV [byteAt h t]) := by
      have e : IntKind.u8.wrap (Int.fdiv (h : Int) (2 ^ (min (Int.toNat ((56 : Int) - ((8 : Int) * (t : Int)))) (IntKind.bits .u64)))) = ((byteAt h t).toNat : Int) := by
        have e1 : min (Int.toNat ((56 : Int) - ((8 : Int) * (t : Int)))) (IntKind.bits .u64) = 56 - 8 * t := by
          have : IntKind.bits .u64 = 64 := rfl
          omega
        rw [e1, Q1z, Int.fdiv_eq_ediv_of_nonneg _ (Int.pow_nonneg (by decide)), IntKind.wrap_u8]
        rw [show ((2 : Int) ^ (56 - 8 * t)) = ((2 ^ (56 - 8 * t) : Nat) : Int) by rw [Int.natCast_pow]; rfl]
        rfl
      rw [e] at hb
      exact hb
    have l1 := X1.size
    have hO9 : OwnB w.heap.size w9 (some (blk q10)) 1 [byteAt h t] := ⟨Q1t hb' rfl (by show (1 : Nat) ≤ maxLen; unfold maxLen; decide), fun ad ha => by cases ha; exact ⟨by show _ ≤ q10; omega, hq10'⟩⟩
    obtain ⟨a', c', w12, hr, hO', hx⟩ := (hO.no X9).append (t := 25) (ty := 25) Try.underlying25 (Nat.le_trans l1 X9.size) (xc := 1) (xs := [byteAt h t]) hO9.row (by rw [List.length_map, List.length_range]; show t + 1 ≤ _; omega)
    rw [← eightN] at hr hO'
    exact ⟨a', _, c', w12, hr, by omega, by omega, m - 1, by omega, t + 1, a', c', rfl, by omega, hO', (X1.trans X9).then hx fun b hb => .inr hb⟩
  · obtain rfl : t = 8 := by omega
    have e : (List.range 8).map (byteAt h) = boxL h 0 := rfl
    rw [e] at hO ⊢
    exact ⟨ba, bc, rfl, hO, X1⟩
end
structure Rng where
  who : Int
  secret : Int
  keys : List Int
  olds : List (List UInt8)
def Rng.V (R : Rng) (k : Nat) (ka : Option Addr) (kc : Nat) (oa : Option Addr) (oc : Nat) : List Value := [.pointer (some (blk k)), .int .i64 R.who, .int .u64 R.secret, .slice ka R.keys.length kc, .slice oa R.olds.length oc]
abbrev KRw (w : World) (o : Own) (g : Nat) (a : Option Addr) (c : Nat) (l : List Int) : Prop := Grows 36 1 w o g a l.length c (l.map u64V)
abbrev ORw (w : World) (o : Own) (g : Nat) (a : Option Addr) (c : Nat) (l : List BS) : Prop := Grows 25 1 w o g a l.length c (l.map BS.v)
def BSk (w : World) (o : Own) (x : BS) : Prop := Row w o x.a (bytesV x.bs) ∧ x.bs.length ≤ x.c
theorem BSk.step {K : Nat → Prop} {w w' : World} {o o' : Own} {x : BS} (h : BSk w o x) (s : Step K w o w' o') : BSk w' o' x := ⟨h.1.step s, h.2⟩

theorem inf25 : (Try.prog.info? 25).map (fun i => (i.zero, i.size, i.bytes)) = some (some (.slice none 0 0), 1, 24) := by kernel_rfl
structure EG (w : World) (o : Own) (q k : Nat) (R : Rng) : Prop where
  mem : ∃ ka kc oa oc, ∃ ol : List BS, Blk w q 108 (R.V k ka kc oa oc) ∧ KRw w o q ka kc R.keys ∧ ORw w o q oa oc ol ∧ ol.map BS.bs = R.olds ∧ ∀ x ∈ ol, BSk w o x
  tg : o q = some q
section
variable {w w' w1 : World} {o o' o1 : Own} {q k p N m : Nat} {K : Nat → Prop} {R : Rng} {b : List UInt8} {a : Option Addr} {c : Nat}
theorem EG.lt (h : EG w o q k R) : q < w.heap.size := by
  obtain ⟨ka, kc, oa, oc, ol, hb, _⟩ := h.mem
  exact hb.lt
theorem EG.step (h : EG w o q k R) (s : Step K w o w' o') (hk : ¬ K q) : EG w' o' q k R := by
  obtain ⟨⟨ka, kc, oa, oc, ol, hb, hk1, ho, hm, hx⟩, tg⟩ := h
  exact ⟨⟨ka, kc, oa, oc, ol, s.blk hb tg hk, hk1.step s hk, ho.step s hk, hm, fun x h => (hx x h).step s⟩, by rw [s.own hb.lt]; exact tg⟩
theorem Q5s {l : List Int} : ∀ u ∈ l.map u64V, u.oneCell' = true := fun u hu => by
  obtain ⟨x, _, rfl⟩ := List.mem_map.1 hu
  rfl
theorem Q5t {l : List BS} : ∀ u ∈ l.map BS.v, u.oneCell' = true := fun u hu => by
  obtain ⟨x, _, rfl⟩ := List.mem_map.1 hu
  rfl
theorem EG.pushKey (h : EG w o q k R) (ok : Tags w o) (hl : R.keys.length < 1000000) (x : Int) {qb : Nat} (hb : Blk w qb 36 [.int .u64 x]) {ka : Option Addr} {n kc : Nat} (hc : w.cell? ((blk q).add 3) = some (.slice ka n kc)) :
    ∃ a' n' c' w' o', (Builtin.append_ #[22, 22] 22 #[.slice ka n kc, .slice (some (blk qb)) 1 1]).run Try.prog w = .ok (.slice a' n' c') w' ∧ Step (fun j => j = q) w o w' o' ∧
      Q0d w' ((blk q).add 3) ∧ ∀ w2, w2 = w'.setCell ((blk q).add 3) (.slice a' n' c') → Step (fun j => j = q) w o w2 (grow w' o') ∧ EG w2 (grow w' o') q k { R with keys := R.keys ++ [x] } := by
  obtain ⟨⟨ka', kc', oa, oc, ol, hbk, hk1, ho, hm, hx⟩, tg⟩ := h
  have hc2 := hbk.cella (i := 3) (v := .slice ka' R.keys.length kc') rfl
  rw [hc] at hc2
  cases hc2
  obtain ⟨i, hi, hz, hsz, hby⟩ := info_of inf36
  obtain ⟨a', c', w', o', hrun, s2, hk2, hk, _⟩ := Grows.push (ty := 22) Try.underlying22 hi hz hsz hby rfl (by decide) hk1 ok hbk.lt (xa := some (blk qb)) (m := 1) (xc := 1) (news := [x].map u64V) rfl (RowAt.of_blk hb) Q5s (by omega) (by omega)
  have X2 : Ext (fun b => ∃ ad, ka = some ad ∧ b = ad.block) w w' := ⟨s2.ext.os, s2.ext.tape, s2.ext.output, s2.ext.size, fun b hb hn => hk b hb fun ad ha hb' => hn ⟨ad, ha, hb'⟩⟩
  have hb2 : Blk w' q 108 _ := hbk.ext X2 fun ⟨ad, h1, h2⟩ => hk1.ne hbk (by decide) ad h1 h2.symm
  have ho2 : ORw w' o' q oa oc ol := ho.keep X2 (fun ad ha ⟨ad', h1, h2⟩ => ho.apart hk1 (by decide) ad ad' ha h1 h2) fun b hb => s2.own hb
  have tg2 : o' q = some q := by rw [s2.own hbk.lt]; exact tg
  refine ⟨a', _, c', w', o', hrun, s2, hb2.cana (i := 3) rfl, fun w3 e3 => ?_⟩
  have X3 : Ext (fun b => b = q) w' w3 := (Ext.refl (fun b => b = q) w').x_set (q := q) (i := 3) rfl (.inl rfl) e3
  have b3 := hb2.seti 3 rfl e3
  have hk2' : KRw w' o' q a' c' (R.keys ++ [x]) := by
    unfold KRw
    rw [List.length_append, List.map_append]; exact hk2
  have s3 : Step (fun j => j = q) w' o' w3 (grow w' o') := Step.of_ext X3 s2.ok fun b hb _ => by subst hb; exact tg2
  refine ⟨s2.trans s3, ⟨⟨a', c', oa, oc, ol, ?_, ?_, ?_, hm, fun y hy => ((hx y hy).step s2).step s3⟩, by rw [s3.own hb2.lt]; exact tg2⟩⟩
  · have e : Rng.V { R with keys := R.keys ++ [x] } k a' c' oa oc = [.pointer (some (blk k)), .int .i64 R.who, .int .u64 R.secret, .slice a' (R.keys.length + 1) c', .slice oa R.olds.length oc] := by unfold Rng.V; rw [List.length_append]; rfl
    rw [e]; exact b3
  · exact hk2'.keep X3 (hk2'.ne hb2 (by decide)) fun b hb => s3.own hb
  · exact ho2.keep X3 (ho2.ne hb2 (by decide)) fun b hb => s3.own hb
theorem EG.pushOld (h : EG w o q k R) (ok : Tags w o) (hl : R.olds.length < 1000000) {x : BS} (hxk : BSk w o x) {qb : Nat} (hb : Blk w qb 25 [x.v]) {ka : Option Addr} {n kc : Nat} (hc : w.cell? ((blk q).add 4) = some (.slice ka n kc)) :
    ∃ a' n' c' w' o', (Builtin.append_ #[59, 59] 59 #[.slice ka n kc, .slice (some (blk qb)) 1 1]).run Try.prog w = .ok (.slice a' n' c') w' ∧ Step (fun j => j = q) w o w' o' ∧
      Q0d w' ((blk q).add 4) ∧ ∀ w2, w2 = w'.setCell ((blk q).add 4) (.slice a' n' c') → Step (fun j => j = q) w o w2 (grow w' o') ∧ EG w2 (grow w' o') q k { R with olds := R.olds ++ [x.bs] } := by
  obtain ⟨⟨ka', kc', oa, oc, ol, hbk, hk1, ho, hm, hx⟩, tg⟩ := h
  have hol : ol.length = R.olds.length := by rw [← hm, List.length_map]
  have hc2 := hbk.cella (i := 4) (v := .slice oa R.olds.length oc) rfl
  rw [hc] at hc2
  cases hc2
  obtain ⟨i, hi, hz, hsz, hby⟩ := info_of inf25
  obtain ⟨a', c', w', o', hrun, s2, hk2, hk, _⟩ := Grows.push (ty := 59) Try.underlying59 hi hz hsz hby rfl (by decide) ho ok hbk.lt (xa := some (blk qb)) (m := 1) (xc := 1) (news := [x].map BS.v) rfl (RowAt.of_blk hb) Q5t (by omega) (by omega)
  rw [hol] at hrun
  have X2 : Ext (fun b => ∃ ad, ka = some ad ∧ b = ad.block) w w' := ⟨s2.ext.os, s2.ext.tape, s2.ext.output, s2.ext.size, fun b hb hn => hk b hb fun ad ha hb' => hn ⟨ad, ha, hb'⟩⟩
  have hb2 : Blk w' q 108 _ := hbk.ext X2 fun ⟨ad, h1, h2⟩ => ho.ne hbk (by decide) ad h1 h2.symm
  have hk1' : KRw w' o' q ka' kc' R.keys := hk1.keep X2 (fun ad ha ⟨ad', h1, h2⟩ => hk1.apart ho (by decide) ad ad' ha h1 h2) fun b hb => s2.own hb
  have tg2 : o' q = some q := by rw [s2.own hbk.lt]; exact tg
  refine ⟨a', _, c', w', o', hrun, s2, hb2.cana (i := 4) rfl, fun w3 e3 => ?_⟩
  have X3 : Ext (fun b => b = q) w' w3 := (Ext.refl (fun b => b = q) w').x_set (q := q) (i := 4) rfl (.inl rfl) e3
  have b3 := hb2.seti 4 rfl e3
  have hk2' : ORw w' o' q a' c' (ol ++ [x]) := by
    unfold ORw
    rw [List.length_append, List.map_append]; exact hk2
  have s3 : Step (fun j => j = q) w' o' w3 (grow w' o') := Step.of_ext X3 s2.ok fun b hb _ => by subst hb; exact tg2
  refine ⟨s2.trans s3, ⟨⟨ka', kc', a', c', ol ++ [x], ?_, ?_, ?_, by rw [List.map_append, hm]; rfl, fun y hy => ?_⟩, by rw [s3.own hb2.lt]; exact tg2⟩⟩
  · have e : Rng.V { R with olds := R.olds ++ [x.bs] } k ka' kc' a' c' = [.pointer (some (blk k)), .int .i64 R.who, .int .u64 R.secret, .slice ka' R.keys.length kc', .slice a' (R.olds.length + 1) c'] := by unfold Rng.V; rw [List.length_append]; rfl
    rw [e]; exact b3
  · exact hk1'.keep X3 (hk1'.ne hb2 (by decide)) fun b hb => s3.own hb
  · exact hk2'.keep X3 (hk2'.ne hb2 (by decide)) fun b hb => s3.own hb
  · rcases List.mem_append.1 hy with hy | hy
    · exact ((hx y hy).step s2).step s3
    · rw [List.mem_singleton.1 hy]; exact (hxk.step s2).step s3
theorem EG.key (h : EG w o q k R) {i : Nat} (hi : i < R.keys.length) : ∃ ka kc ad, w.cell? ((blk q).add 3) = some (.slice ka R.keys.length kc) ∧ ka = some ad ∧ w.cell? (ad.add (i * 1)) = some (.int .u64 (R.keys[i]?.getD 0)) := by
  obtain ⟨⟨ka, kc, oa, oc, ol, hbk, hk1, ho, hm, hx⟩, tg⟩ := h
  have hr := hk1.row
  have hg : (R.keys.map u64V)[i]? = some (u64V (R.keys[i]?.getD 0)) := by rw [List.getElem?_map, List.getElem?_eq_getElem hi]; rfl
  obtain ⟨ad, ha, hc⟩ := hr i _ hg
  exact ⟨ka, kc, ad, hbk.cella (i := 3) rfl, ha, by rw [Nat.mul_one]; exact hc⟩
theorem EG.old (h : EG w o q k R) {i : Nat} (hi : i < R.olds.length) : ∃ oa oc ad, ∃ x : BS, w.cell? ((blk q).add 4) = some (.slice oa R.olds.length oc) ∧ oa = some ad ∧ w.cell? (ad.add (i * 1)) = some (.slice x.a x.bs.length x.c) ∧ x.bs = R.olds[i]?.getD [] ∧ BSk w o x := by
  obtain ⟨⟨ka, kc, oa, oc, ol, hbk, hk1, ho, hm, hx⟩, tg⟩ := h
  have hol : ol.length = R.olds.length := by rw [← hm, List.length_map]
  have hr := ho.row
  have hil : i < ol.length := by omega
  have hg : (ol.map BS.v)[i]? = some (ol[i]).v := by rw [List.getElem?_map, List.getElem?_eq_getElem hil]; rfl
  obtain ⟨ad, ha, hc⟩ := hr i _ hg
  refine ⟨oa, oc, ad, ol[i], hbk.cella (i := 4) rfl, ha, by rw [Nat.mul_one]; exact hc, ?_, hx _ (List.getElem_mem hil)⟩
  rw [← hm, List.getElem?_map, List.getElem?_eq_getElem hil]; rfl
theorem EG.setKey (h : EG w o q k R) (ok : Tags w o) {i : Nat} (hi : i < R.keys.length) {ka : Option Addr} {n kc : Nat} (hc : w.cell? ((blk q).add 3) = some (.slice ka n kc)) {ad : Addr} (ha : ka = some ad) (v : Int) :
    Q0d w (ad.add (i * 1)) ∧ ∀ w2, w2 = w.setCell (ad.add (i * 1)) (.int .u64 v) → ∃ o2, Step (fun j => j = q) w o w2 o2 ∧ EG w2 o2 q k { R with keys := R.keys.set i v } := by
  obtain ⟨⟨ka', kc', oa, oc, ol, hbk, hk1, ho, hm, hx⟩, tg⟩ := h
  have hc2 := hbk.cella (i := 3) (v := .slice ka' R.keys.length kc') rfl
  rw [hc] at hc2
  cases hc2
  have hne : R.keys.map u64V ≠ [] := fun e => by
    have := congrArg List.length e
    rw [List.length_map] at this
    simp at this; rw [this] at hi; simp at hi
  obtain ⟨b, cur, ha2, hb, hle, hob, hbl, hput⟩ := Grows.put (j := i) (vs := [.int .u64 v]) hk1 ok hne
  rw [ha] at ha2
  cases ha2
  rw [List.length_map] at hle
  rw [Nat.mul_one]
  refine ⟨hb.cana (List.getElem?_eq_getElem (by omega)), fun w3 e3 => ?_⟩
  rw [add_blk] at e3
  have X3 : Ext (fun q => q = b) w w3 := (Ext.refl (fun q => q = b) w).x_set (q := b) (i := i) rfl (.inl rfl) e3
  have b3 := hb.seti i (v := .int .u64 v) rfl e3
  obtain ⟨s3, h3⟩ := hput w3 X3 b3
  have hset : setAll (R.keys.map u64V) i [.int .u64 v] = (R.keys.set i v).map u64V := by
    show (R.keys.map u64V).set i _ = _
    rw [List.map_set]; rfl
  refine ⟨_, s3, ⟨⟨some (blk b), kc, oa, oc, ol, ?_, ?_, ?_, hm, fun y hy => (hx y hy).step s3⟩, by rw [s3.own hbk.lt]; exact tg⟩⟩
  · have hgb : q ≠ b := fun e => hk1.ne hbk (by decide) _ ha (by rw [e])
    have e : Rng.V { R with keys := R.keys.set i v } k (some (blk b)) kc oa oc = Rng.V R k (some (blk b)) kc oa oc := by unfold Rng.V; rw [List.length_set]
    rw [e, ← ha]; exact hbk.ext X3 hgb
  · unfold KRw
    rw [← hset, List.length_set, ← ha]
    exact h3
  · exact ho.keep X3 (fun ad' ha' h2 => ho.apart hk1 (by decide) ad' (blk b) ha' ha h2) fun b hb => s3.own hb
theorem EG.who (h : EG w o q k R) : w.cell? ((blk q).add 1) = some (.int .i64 R.who) := by
  obtain ⟨⟨ka, kc, oa, oc, ol, hbk, _⟩, tg⟩ := h
  exact hbk.cella (i := 1) rfl
theorem EG.secret (h : EG w o q k R) : w.cell? ((blk q).add 2) = some (.int .u64 R.secret) := by
  obtain ⟨⟨ka, kc, oa, oc, ol, hbk, _⟩, tg⟩ := h
  exact hbk.cella (i := 2) rfl
theorem EG.orc (h : EG w o q k R) : w.cell? ((blk q).add 0) = some (.pointer (some (blk k))) := by
  obtain ⟨⟨ka, kc, oa, oc, ol, hbk, _⟩, tg⟩ := h
  exact hbk.cella (i := 0) rfl
theorem EG.keysC (h : EG w o q k R) : ∃ ka kc, w.cell? ((blk q).add 3) = some (.slice ka R.keys.length kc) := by
  obtain ⟨⟨ka, kc, oa, oc, ol, hbk, _⟩, tg⟩ := h
  exact ⟨ka, kc, hbk.cella (i := 3) rfl⟩
theorem EG.oldsC (h : EG w o q k R) : ∃ ka kc, w.cell? ((blk q).add 4) = some (.slice ka R.olds.length kc) := by
  obtain ⟨⟨ka, kc, oa, oc, ol, hbk, _⟩, tg⟩ := h
  exact ⟨oa, oc, hbk.cella (i := 4) rfl⟩
def keyK (R : Rng) (e : Int) : Int × Int := if e < 0 ∨ (R.keys.length : Int) ≤ e then (0, 2) else if R.keys[e.toNat]?.getD 0 = 0 then (0, 11) else (R.keys[e.toNat]?.getD 0, 0)
theorem Q3v (h : EG w o q k R) (e : Int) : Calls Try.prog 64 #[.pointer (some (blk q)), .int .i64 e] w (Ret (.tuple #[.int .u64 (keyK R e).1, .int .i64 (keyK R e).2]) fun w' => w' = w) := by
  refine Q0W.run _ _ ?_
  unfold Q0W.N
  refine ⟨fun h => (by cases h), fun _ => ⟨fun h0 => ?_, fun h0 => ?_⟩⟩
  · unfold keyK; rw [if_pos (.inl h0)]; exact ⟨rfl, rfl⟩
  obtain ⟨ka, kc, hc⟩ := h.keysC
  refine ⟨_, rfl, _, _, _, hc, fun h1 => ?_, fun h1 => ?_⟩
  · unfold keyK; rw [if_pos (.inr h1)]; exact ⟨rfl, rfl⟩
  obtain ⟨i, rfl⟩ := Int.eq_ofNat_of_zero_le h0
  obtain ⟨ka2, kc2, ad, hc2, ha, hv⟩ := h.key (i := i) (by omega)
  have hk : keyK R (i : Int) = if R.keys[i]?.getD 0 = 0 then (0, 11) else (R.keys[i]?.getD 0, 0) := by unfold keyK; rw [if_neg (by omega)]; rfl
  refine ⟨_, _, _, hc2, ad, ha, by omega, by omega, _, by rw [Int.toNat_natCast]; exact hv, fun hz => ?_, fun hz => ?_⟩
  · rw [hk, if_pos hz]; exact ⟨rfl, rfl⟩
  · rw [hk, if_neg hz]
    exact ⟨_, _, _, hc2, ad, ha, by omega, by omega, _, by rw [Int.toNat_natCast]; exact hv, rfl, rfl⟩
theorem Q3g (ok : Tags w o) {who secret : Int} (h0 : 0 ≤ who) (h1 : who < 8) (k : Nat) : Calls Try.prog 18 #[.pointer (some (blk k)), .int .i64 who, .int .u64 secret] w (fun x w' => ∃ q o', x = .returned (.tuple #[.pointer (some (blk q)), .int .i64 0]) ∧ w.heap.size ≤ q ∧ Step no w o w' o' ∧ EG w' o' q k ⟨who, secret, [], []⟩) := by
  refine (Q1j.go _ _ _ (R := fun v w' => ∃ q o', v = (.tuple #[.pointer (some (blk q)), .int .i64 0]) ∧ w.heap.size ≤ q ∧ Step no w o w' o' ∧ EG w' o' q k ⟨who, secret, [], []⟩) ?_).mono fun x w' ⟨v, he, q, o', hv, hw⟩ => ⟨q, o', by rw [he, hv], hw⟩
  unfold Q1j.N
  refine ⟨fun h => absurd h (by omega), fun _ => ⟨fun h => absurd h (by omega), fun _ => ⟨fun h => (by cases h), fun _ w7 q8 X7 hb hq hq' => ?_⟩⟩⟩
  have s := (Step.of_no X7 ok).tag hq hq'
  exact ⟨q8, _, rfl, hq, s, ⟨none, 0, none, 0, [], hb, Grows.nil _ _ _ _ _, Grows.nil _ _ _ _ _, rfl, fun x h => (by cases h)⟩, Q1v⟩
end
set_option maxHeartbeats 4000000
open W (OwnB GivesW)
def tells (S : OS) (olds : List (List UInt8)) (e : Nat) (ks : List Int) : Prop :=
  (ks[e + 1]?.getD 0 ≠ 0 ∧ ks[e]?.getD 0 = 0) ∧ (openOf S (ks[e + 1]?.getD 0) (boundE ((e + 1 : Nat) : Int)) (olds[e + 1]?.getD [])).2 = 0 ∧ (openOf S (ks[e + 1]?.getD 0) (boundE ((e + 1 : Nat) : Int)) (olds[e + 1]?.getD [])).1.length = 8
instance (S : OS) (olds : List (List UInt8)) (e : Nat) (ks : List Int) : Decidable (tells S olds e ks) := by unfold tells; infer_instance
def backK (S : OS) (olds : List (List UInt8)) : Nat → List Int → List Int
  | 0, ks => ks
  | e + 1, ks => if tells S olds e ks then backK S olds e (ks.set e (valOf (openOf S (ks[e + 1]?.getD 0) (boundE ((e + 1 : Nat) : Int)) (olds[e + 1]?.getD [])).1)) else ks
def Short (S : OS) : Prop := ∀ x s, alook S.sealed x = some s → s.plain.length ≤ 1000000
section
variable {w w' w1 : World} {o o' o1 : Own} {q k p N m : Nat} {K : Nat → Prop} {R : Rng} {S : OS} {b : List UInt8} {a : Option Addr} {c : Nat}
theorem Q6h (h : EG w o q k R) (hP : POrc w o k S) (ok : Tags w o) (hqk : q ≠ k) (hS : Short S) (hl : R.keys.length = R.olds.length) (h0 : 0 < R.keys.length) (h1 : R.keys.length < 1000000) (hol : ∀ b ∈ R.olds, b.length < 1000000) :
    Calls Try.prog 61 #[.pointer (some (blk q))] w (fun x w' => x = .returned (.tuple #[]) ∧ ∃ o', Step (fun j => j = q) w o w' o' ∧ EG w' o' q k { R with keys := backK S R.olds (R.keys.length - 1) R.keys }) := by
  refine (Q0X.go _ (R := fun v w' => v = .tuple #[] ∧ ∃ o', Step (fun j => j = q) w o w' o' ∧ EG w' o' q k { R with keys := backK S R.olds (R.keys.length - 1) R.keys }) ?_).mono fun x w' ⟨v, he, hv, hw⟩ => ⟨by rw [he, hv], hw⟩
  unfold Q0X.N
  obtain ⟨ka0, kc0, hc0⟩ := h.keysC
  have hkq : ¬ k = q := fun e => hqk e.symm
  refine ⟨_, rfl, _, _, _, hc0, by omega, by omega, ?_⟩
  refine ⟨fun m vs w1 => ∃ (e : Nat) (o1 : Own) (ks : List Int), vs = [.int .i64 e] ∧ m = e ∧ e < R.keys.length ∧ ks.length = R.keys.length ∧ Step (fun j => j = q) w o w1 o1 ∧ EG w1 o1 q k { R with keys := ks } ∧ backK S R.olds e ks = backK S R.olds (R.keys.length - 1) R.keys,
    R.keys.length - 1, ⟨R.keys.length - 1, o, R.keys, by congr 2; omega, rfl, by omega, rfl, Step.refl _ ok, h, rfl⟩, ?_⟩
  rintro m w8 i ⟨e, o8, ks, hi, hm, hel, hks, s8, E8, hB⟩
  simp only [List.cons.injEq, Value.int.injEq, true_and, and_true] at hi
  subst hi
  subst hm
  have fin : ∀ (w9 : World) (o9 : Own), backK S R.olds m ks = ks → Step (fun j => j = q) w8 o8 w9 o9 → EG w9 o9 q k { R with keys := ks } → Value.tuple #[] = .tuple #[] ∧ ∃ o', Step (fun j => j = q) w o w9 o' ∧ EG w9 o' q k { R with keys := backK S R.olds (R.keys.length - 1) R.keys } := fun w9 o9 hz s9 E9 => ⟨rfl, o9, s8.trans s9, by rw [← hB, hz]; exact E9⟩
  refine ⟨fun hgt => ?_, fun hle => ?_⟩
  rotate_left
  · have : m = 0 := by omega
    subst this
    exact fin w8 o8 rfl (Step.refl _ s8.ok) E8
  obtain ⟨e, rfl⟩ : ∃ e, m = e + 1 := ⟨m - 1, by omega⟩
  obtain ⟨ka1, kc1, ad1, c1, ha1, v1⟩ := E8.key (i := e + 1) (by show e + 1 < ks.length; omega)
  obtain ⟨ka2, kc2, ad2, c2, ha2, v2⟩ := E8.key (i := e) (by show e < ks.length; omega)
  have hr : c1 = c1 := rfl
  have v1 : w8.cell? (ad1.add ((e + 1) * 1)) = some (.int .u64 (ks[e + 1]?.getD 0)) := v1
  have v2 : w8.cell? (ad2.add (e * 1)) = some (.int .u64 (ks[e]?.getD 0)) := v2
  have ti : ∀ n : Nat, Int.toNat (n : Int) = n := Int.toNat_natCast
  have tj : Int.toNat (((e + 1 : Nat) : Int) - 1) = e := by omega
  refine ⟨_, _, _, c1, ad1, ha1, by omega, by show ((e + 1 : Nat) : Int) < (ks.length : Int); omega, _, by rw [ti]; exact v1, fun hn1 => ?_, fun hz1 => ?_⟩
  rotate_left
  · exact fin w8 o8 (by unfold backK; rw [if_neg (fun h => h.1.1 hz1)]) (Step.refl _ s8.ok) E8
  refine ⟨_, _, _, c2, by omega, by omega, ad2, ha2, by omega, by show ((e + 1 : Nat) : Int) - 1 < (ks.length : Int); omega, _, by rw [tj]; exact v2, fun hz2 => ?_, fun hn2 => ?_⟩
  rotate_left
  · exact fin w8 o8 (by unfold backK; rw [if_neg (fun h => hn2 h.1.2)]) (Step.refl _ s8.ok) E8
  obtain ⟨oa, oc, ad3, x, c3, ha3, v3, hx, hxk⟩ := E8.old (i := e + 1) (by show e + 1 < R.olds.length; omega)
  have hx : x.bs = R.olds[e + 1]?.getD [] := hx
  refine ⟨_, E8.orc, _, _, _, c1, ad1, ha1, by omega, by show ((e + 1 : Nat) : Int) < (ks.length : Int); omega, _, by rw [ti]; exact v1, _, _, _, c3, ad3, ha3, by omega, by show ((e + 1 : Nat) : Int) < (R.olds.length : Int); omega, _, _, _, by rw [ti]; exact v3, fun w22 X22 => ?_⟩
  refine (Q3L (e := ((e + 1 : Nat) : Int)) (by omega) (by omega) w22).mono fun u w37 ⟨ba, bc, he, hO, X37⟩ => ⟨_, _, _, he, ?_⟩
  have X := X22.trans X37
  have s37 := Step.of_no X s8.ok
  have hP37 := (hP.step s8 hkq).step s37 id
  refine ⟨by rw [ti]; exact X.cell v3 id, X.cell c3 id, by rw [ti]; exact X.cell v1 id, X.cell c1 id, X.cell E8.orc id, ?_⟩
  have hxk37 := hxk.step s37
  have hxl : x.bs.length < 1000000 := by
    rw [hx, List.getElem?_eq_getElem (by omega)]
    exact hol _ (List.getElem_mem _)
  have op := OpenO hP37 s37.ok (ks[e + 1]?.getD 0) (ba := ba) (bc := bc) (b := boundE ((e + 1 : Nat) : Int)) hO.row hxk37.1.1 hxl hxk37.2 (fun s hs => hS _ s hs)
  obtain ⟨r, hr⟩ : ∃ r, openOf S (ks[e + 1]?.getD 0) (boundE ((e + 1 : Nat) : Int)) x.bs = r := ⟨_, rfl⟩
  rw [hr] at op
  rw [hx] at hr
  have E37 := E8.step s37 id
  refine Calls.mono op fun u w46 ⟨o46, pa, pc, he, s46, pr, hpc, _⟩ => ⟨_, _, _, _, he, fun hne => ?_, fun hz => ⟨fun hn8 => ?_, fun h8 => ?_⟩⟩
  · exact fin w46 o46 (by unfold backK; rw [if_neg (fun h => hne (by have := h.2.1; rw [hr] at this; exact this))]) (s37.none.trans s46.none) (E37.step s46 id)
  · exact fin w46 o46 (by unfold backK; rw [if_neg (fun h => hn8 (by have := h.2.2; rw [hr] at this; omega))]) (s37.none.trans s46.none) (E37.step s46 id)
  have ht : tells S R.olds e ks := ⟨⟨hn1, hz2⟩, by rw [hr]; exact hz, by rw [hr]; omega⟩
  have hlen : r.1.length = 8 := by omega
  have E46 := E37.step s46 id
  have s46' : Step (fun j => j = q) w8 o8 w46 o46 := s37.none.trans s46.none
  refine ⟨fun m2 vs w1 => ∃ (t : Nat) (o1 : Own), vs = [.int .i64 t] ∧ m2 + t = 8 ∧ Step (fun j => j = q) w46 o46 w1 o1 ∧ EG w1 o1 q k { R with keys := ks.set e (valOf (r.1.take t)) }, 8, ⟨0, o46, rfl, rfl, Step.refl _ s46.ok, ?_⟩, ?_⟩
  · have : ks.set e (valOf (r.1.take 0)) = ks := by
      have hz : (valOf (r.1.take 0) : Int) = ks[e]?.getD 0 := by rw [hz2]; rfl
      rw [hz, List.getElem?_eq_getElem (by omega)]
      exact List.set_getElem_self (by omega)
    rw [this]; exact E46
  rintro m2 w52 i2 ⟨t, o52, hi2, hm2, s52, E52⟩
  simp only [List.cons.injEq, Value.int.injEq, true_and, and_true] at hi2
  subst hi2
  refine ⟨fun htl => ?_, fun htl => ?_⟩
  · have ht8 : t < 8 := by omega
    have pr52 := (pr.step s52).1
    have hg : (bytesV r.1)[t]? = some (.int .u8 ((r.1[t]'(by omega)).toNat : Int)) := Q1w (by omega)
    obtain ⟨pad, hpad, hpc2⟩ := pr52 t _ hg
    obtain ⟨ka4, kc4, ad4, c4, ha4, v4⟩ := E52.key (i := e) (by show e < (ks.set e _).length; rw [List.length_set]; omega)
    have hk4 : (ks.set e ((valOf (r.1.take t) : Nat) : Int))[e]?.getD 0 = ((valOf (r.1.take t) : Nat) : Int) := by rw [List.getElem?_set_self (by omega)]; rfl
    have v4 : w52.cell? (ad4.add (e * 1)) = some (.int .u64 ((ks.set e ((valOf (r.1.take t) : Nat) : Int))[e]?.getD 0)) := v4
    rw [hk4] at v4
    have hll : ((ks.set e ((valOf (r.1.take t) : Nat) : Int)).length : Int) = ks.length := by rw [List.length_set]
    refine ⟨pad, hpad, by omega, by omega, _, by rw [ti, Nat.mul_one]; exact hpc2, _, _, _, c4, by omega, by omega, _, _, _, c4, by omega, by omega, ad4, ha4, by omega, by show ((e + 1 : Nat) : Int) - 1 < _; rw [hll]; omega, _, by rw [tj]; exact v4, ad4, ha4, by omega, by show ((e + 1 : Nat) : Int) - 1 < _; rw [hll]; omega, fun w57 X57 => ?_⟩
    have s57 := Step.of_no X57 s52.ok
    have E57 := E52.step s57 id
    have hlt := Q30 t (r.1.take t) (by simp; omega)
    have hlt2 : valOf (r.1.take t) < 2 ^ 56 := by
      refine Nat.lt_of_lt_of_le hlt ?_
      exact Nat.le_trans (Nat.pow_le_pow_right (by decide) (by omega : t ≤ 7)) (by decide)
    have hxx := u8_lt (r.1[t]'(by omega))
    have hval : IntKind.u64.wrap ((BitVec.ofInt (IntKind.bits .u64) (IntKind.u64.wrap (((valOf (r.1.take t) : Nat) : Int) * 256)) ||| BitVec.ofInt (IntKind.bits .u64) (IntKind.u64.wrap ((r.1[t]'(by omega)).toNat : Int))).toNat) = ((valOf (r.1.take (t + 1)) : Nat) : Int) := by
      rw [show (256 : Int) = 2 ^ min (Int.toNat 8) (IntKind.bits .u64) from rfl, or_byte hlt2 hxx, wu64 (by omega) (by omega), List.take_add_one, show r.1[t]?.toList = [r.1[t]'(by omega)] by simp [show t < r.1.length by omega], Q2b]
    rw [add_add, Nat.add_zero, tj, hval]
    obtain ⟨hcan, hset⟩ := E57.setKey s57.ok (i := e) (by show e < (ks.set e _).length; rw [List.length_set]; omega) (X57.cell c4 id) ha4 ((valOf (r.1.take (t + 1)) : Nat) : Int)
    refine ⟨hcan, Q01 fun w66 e66 => ?_⟩
    obtain ⟨o66, s66, E66⟩ := hset w66 e66
    refine ⟨by omega, by omega, m2 - 1, by omega, t + 1, o66, rfl, by omega, (s52.trans s57.none).trans s66, ?_⟩
    have hss : (ks.set e ((valOf (r.1.take t) : Nat) : Int)).set e ((valOf (r.1.take (t + 1)) : Nat) : Int) = ks.set e ((valOf (r.1.take (t + 1)) : Nat) : Int) := by rw [List.set_set]
    have E66 : EG w66 o66 q k { R with keys := (ks.set e ((valOf (r.1.take t) : Nat) : Int)).set e ((valOf (r.1.take (t + 1)) : Nat) : Int) } := E66
    rw [hss] at E66
    exact E66
  · have ht8 : t = 8 := by omega
    subst ht8
    rw [List.take_of_length_le (by omega)] at E52
    refine ⟨by omega, by omega, e, by omega, e, o52, ks.set e (valOf r.1), by congr 2; omega, rfl, by omega, by rw [List.length_set]; exact hks, (s8.trans s46').trans s52, E52, ?_⟩
    rw [← hB]
    show _ = (if tells S R.olds e ks then _ else _)
    rw [if_pos ht, hr]
end
open W (OwnB GivesW)
structure CH (w : World) (o : Own) (cg : Chg) (wa : Option Addr) (wc : Nat) (l : List Wr) (oa : Option Addr) (oc : Nat) : Prop where
  ws : Row w o wa (l.flatMap Wr.C)
  m : l.map Wr.p = cg.ws
  bs : ∀ x ∈ l, Row w o x.a (bytesV x.b) ∧ x.b.length ≤ x.c ∧ x.b.length < 1000000
  old : Row w o oa (bytesV cg.old)
  ol : cg.old.length < 1000000
  n : l.length < 1000000
theorem CH.step {K : Nat → Prop} {w w' : World} {o o' : Own} {cg : Chg} {wa oa : Option Addr} {wc oc : Nat} {l : List Wr} (h : CH w o cg wa wc l oa oc) (s : Step K w o w' o') : CH w' o' cg wa wc l oa oc :=
  ⟨h.ws.step s, h.m, fun x hx => ⟨(h.bs x hx).1.step s, (h.bs x hx).2⟩, h.old.step s, h.ol, h.n⟩
def idxW (l : List Wr) (n : Int) : Int := match l.findIdx? (fun x => x.who == n) with | some i => i | none => -1
def toldBy (S : OS) (R : Rng) (c : Chg) : Int × Int := match c.ws.find? (fun p => p.1 == R.who) with | some p => Q12 S R.secret p.2 | none => (0, 11)
def learnK (S : OS) (R : Rng) (c : Chg) : Rng × Int :=
  if c.kd ≠ 3 ∨ rightM c = false then (R, 1)
  else if 20 ≤ R.keys.length then (R, 3)
  else ({ R with keys := backK S (R.olds ++ [c.old]) R.keys.length (R.keys ++ [(toldBy S R c).1]), olds := R.olds ++ [c.old] }, (toldBy S R c).2)
theorem Q1P {K : Nat → Prop} {w w' : World} {o o' : Own} {b : Nat} {t : TypeId} {cs : List Value} (h : Blk w b t cs ∧ o b = none) (s : Step K w o w' o') : Blk w' b t cs ∧ o' b = none :=
  ⟨h.1.ext s.ext (fun ⟨k, h1, _⟩ => by rw [h.2] at h1; cases h1), by rw [s.own h.1.lt]; exact h.2⟩
theorem Q3P (l : List Wr) (n : Int) : (∃ (i : Nat) (x : Wr), l[i]? = some x ∧ x.who = n ∧ idxW l n = (i : Int) ∧ (l.map Wr.p).find? (fun p => p.1 == n) = some x.p) ∨ (idxW l n = -1 ∧ (l.map Wr.p).find? (fun p => p.1 == n) = none) := by
  unfold idxW
  induction l with
  | nil => exact .inr ⟨rfl, rfl⟩
  | cons y r ih =>
    rw [List.findIdx?_cons, List.map_cons, List.find?_cons]
    by_cases hy : (y.who == n) = true
    · have hp : (y.p.1 == n) = true := hy
      rw [if_pos hy, hp]
      exact .inl ⟨0, y, rfl, by simpa using hy, rfl, rfl⟩
    · have hp : (y.p.1 == n) = false := by show (y.who == n) = false; simpa using hy
      rw [if_neg hy, hp]
      rcases ih with ⟨i, x, h1, h2, h3, h4⟩ | ⟨h3, h4⟩
      · cases hf : r.findIdx? (fun x => x.who == n) with
        | none => rw [hf] at h3; exact absurd h3 (by show ¬ (-1 : Int) = _; omega)
        | some j =>
          rw [hf] at h3
          have : j = i := by have h3 : (j : Int) = i := h3; omega
          subst this
          exact .inl ⟨j + 1, x, h1, h2, rfl, h4⟩
      · cases hf : r.findIdx? (fun x => x.who == n) with
        | none => exact .inr ⟨rfl, h4⟩
        | some j => rw [hf] at h3; have h3 : (j : Int) = -1 := h3; omega
section
variable {w w' w1 : World} {o o' o1 : Own} {q k p N m : Nat} {K : Nat → Prop} {R : Rng} {S : OS} {b : List UInt8} {a : Option Addr} {c : Nat} {l : List Wr} {cg : Chg} {wa oa : Option Addr} {wc oc : Nat}
theorem Q6j {qc : Nat} (h : EG w o q k R) (hq : w.cell? (blk qc) = some (.pointer (some (blk q)))) (x : Wr) :
    Calls Try.prog 57 #[.agg #[.int .i64 x.who, .slice x.a x.b.length x.c], .pointer (some (blk qc))] w (Ret (.bool (x.who == R.who)) fun w' => Ext no w w') := by
  refine Q0L.run _ _ _ _ _ ?_
  unfold Q0L.N
  exact ⟨_, hq, _, rfl, _, h.who, fun w5 X5 => ⟨rfl, X5⟩⟩
theorem Q5E {qc : Nat} (h : EG w o q k R) (hq : Blk w qc 34 [.pointer (some (blk q))]) (ok : Tags w o) (hr : RowAt w wa (l.flatMap Wr.C)) (hl : l.length < 1000000) :
    Calls Try.prog 58 #[.slice wa l.length wc, .func (.func 57) #[] #[.pointer (some (blk qc))]] w (Ret (.int .i64 (idxW l R.who)) fun w' => Ext no w w') := by
  refine Q07.run _ _ _ _ _ _ ?_
  unfold Q07.N
  refine ⟨fun m vs w1 => ∃ t : Nat, vs = [.int .i64 t] ∧ m + t = l.length ∧ Ext no w w1 ∧ ∀ i x, i < t → l[i]? = some x → (x.who == R.who) = false, l.length, ⟨0, rfl, rfl, Ext.refl _ _, fun i x h => absurd h (by omega)⟩, ?_⟩
  rintro m w6 i ⟨t, hi, hm, X6, hn⟩
  simp only [List.cons.injEq, Value.int.injEq, true_and, and_true] at hi
  subst hi
  refine ⟨fun ht => ?_, fun ht => ?_⟩
  · have htl : t < l.length := by omega
    have hg : l[t]? = some l[t] := List.getElem?_eq_getElem htl
    generalize l[t] = x at *
    have hr6 := hr.no X6
    obtain ⟨ad, rfl⟩ := hr6.faddr Wr.len (by decide) htl
    have s6 := Step.of_no X6 ok
    refine ⟨ad, rfl, by omega, by omega, x.who, x.a, x.b.length, x.c, by rw [Int.toNat_natCast]; exact hr6.floads Wr.len hg, by kernel_rfl, ?_⟩
    refine Calls.mono (Q6j (h.step s6 id) ((hq.ext X6 id).cella (i := 0) rfl) x) fun u w14 ⟨he, X14⟩ => ⟨_, he, fun hy => ?_, fun hno => ⟨by omega, by omega, m - 1, by omega, t + 1, rfl, by omega, X6.trans X14, fun i y hi hy => ?_⟩⟩
    · have : idxW l R.who = (t : Int) := by
        unfold idxW
        have hf : l.findIdx? (fun x => x.who == R.who) = some t := by
          rw [List.findIdx?_eq_some_iff_getElem]
          refine ⟨htl, ?_, fun j hj => ?_⟩
          · rw [List.getElem?_eq_getElem htl] at hg
            rw [Option.some.inj hg]; exact hy
          · rw [hn j _ hj (List.getElem?_eq_getElem (by omega))]; decide
        rw [hf]
      rw [this]
      exact ⟨rfl, X6.trans X14⟩
    · by_cases hit : i = t
      · subst hit
        rw [hg] at hy
        cases hy
        exact hno
      · exact hn i y (by omega) hy
  · have : idxW l R.who = -1 := by
      unfold idxW
      have hf : l.findIdx? (fun x => x.who == R.who) = none := by
        rw [List.findIdx?_eq_none_iff]
        intro y hy
        obtain ⟨i, hi⟩ := List.mem_iff_getElem?.1 hy
        exact hn i y (by have := (List.getElem?_eq_some_iff.1 hi).1; omega) hi
      rw [hf]
    rw [this]
    exact ⟨rfl, X6⟩
theorem Q3C {Φ : World → Prop} {qc pp : Nat} {x v : Int} (h : EG w o q k R) (hP : POrc w o k S) (ok : Tags w o) (hqk : q ≠ k) (hS : Short S) (hl : R.keys.length = R.olds.length) (h1 : R.keys.length < 1000) (hol : ∀ b ∈ R.olds, b.length < 1000000)
    (hq : Blk w qc 34 [.pointer (some (blk q))] ∧ o qc = none) (M : Mine [pp] w o) (hpq : pp ≠ q) (hold : Row w o oa (bytesV b)) (hb : b.length < 1000000) (hv : x = v)
    (hΦ : ∀ w' o', Step (fun j => j = q) w o w' o' → EG w' o' q k { R with keys := backK S (R.olds ++ [b]) R.keys.length (R.keys ++ [x]), olds := R.olds ++ [b] } → Φ w') :
    ∃ (x52 : Option Addr), w.cell? (blk qc) = some (.pointer x52) ∧
    ∃ (x54 : Option Addr), w.cell? (blk qc) = some (.pointer x54) ∧
    ∃ a55 : Addr, x54 = some a55 ∧
    ∃ (keys57a : Option Addr) (keys57n keys57c : Nat), w.cell? (a55.add 3) = some (.slice keys57a keys57n keys57c) ∧
    ∀ (ww58 : World) (q59 : Nat), Ext no w ww58 → Blk ww58 q59 36 [.int .u64 v] → w.heap.size ≤ q59 → q59 < ww58.heap.size →
    ww58.cell? (a55.add 3) = some (.slice keys57a keys57n keys57c) ∧
    ww58.cell? (blk qc) = some (.pointer x54) ∧
    ww58.cell? (blk qc) = some (.pointer x52) ∧
    ∃ (a63a : Option Addr) (a63n a63c : Nat) (ww64 : World), (Builtin.append_ #[22, 22] 22 #[.slice keys57a keys57n keys57c, .slice (some (blk q59)) 1 1]).run Try.prog ww58 = .ok (.slice a63a a63n a63c) ww64 ∧
    Keep [pp] ww58 ww64 ∧
    ww64.cell? (blk qc) = some (.pointer x52) ∧
    ∃ a66 : Addr, x52 = some a66 ∧
    Q0d ww64 ((a66.add 3).add 0) ∧
    (∀ p ∈ [pp], p ≠ Addr.block (a66.add 3)) ∧
    thenW (ww64.setCell ((a66.add 3).add 0) (.slice a63a a63n a63c)) fun ww67 =>
    ∃ (x70 : Option Addr), ww67.cell? (blk qc) = some (.pointer x70) ∧
    ∃ (x72 : Option Addr), ww67.cell? (blk qc) = some (.pointer x72) ∧
    ∃ a73 : Addr, x72 = some a73 ∧
    ∃ (olds75a : Option Addr) (olds75n olds75c : Nat), ww67.cell? (a73.add 4) = some (.slice olds75a olds75n olds75c) ∧
    ∀ (ww68 : World), Ext no ww67 ww68 →
    Calls Try.prog 60 #[.slice oa b.length oc] ww68 fun ee77 ww78 => ∃ (clone76a : Option Addr) (clone76n clone76c : Nat), ee77 = .returned (.slice clone76a clone76n clone76c) ∧
    ww78.cell? (a73.add 4) = some (.slice olds75a olds75n olds75c) ∧
    ww78.cell? (blk qc) = some (.pointer x72) ∧
    ww78.cell? (blk qc) = some (.pointer x70) ∧
    ∀ (ww82 : World) (q83 : Nat), Ext no ww78 ww82 → Blk ww82 q83 25 [.slice clone76a clone76n clone76c] → ww78.heap.size ≤ q83 → q83 < ww82.heap.size →
    ww82.cell? (a73.add 4) = some (.slice olds75a olds75n olds75c) ∧
    ww82.cell? (blk qc) = some (.pointer x72) ∧
    ww82.cell? (blk qc) = some (.pointer x70) ∧
    ∃ (a87a : Option Addr) (a87n a87c : Nat) (ww88 : World), (Builtin.append_ #[59, 59] 59 #[.slice olds75a olds75n olds75c, .slice (some (blk q83)) 1 1]).run Try.prog ww82 = .ok (.slice a87a a87n a87c) ww88 ∧
    ww88.cell? (blk qc) = some (.pointer x70) ∧
    ∃ a90 : Addr, x70 = some a90 ∧
    Q0d ww88 ((a90.add 4).add 0) ∧
    thenW (ww88.setCell ((a90.add 4).add 0) (.slice a87a a87n a87c)) fun ww91 =>
    ∃ (x93 : Option Addr), ww91.cell? (blk qc) = some (.pointer x93) ∧
    Calls Try.prog 61 #[.pointer x93] ww91 fun ee94 ww95 => ee94 = .returned (.tuple #[]) ∧
    Φ ww95 := by
  subst hv
  obtain ⟨ka, kc, hc3⟩ := h.keysC
  have cq : ∀ {w' : World} {o' : Own} {K : Nat → Prop}, Step K w o w' o' → w'.cell? (blk qc) = some (.pointer (some (blk q))) := fun s => (Q1P hq s).1.cella (i := 0) rfl
  have cq0 := cq (Step.refl no ok)
  have hkq : ¬ k = q := fun e => hqk e.symm
  refine ⟨_, cq0, _, cq0, _, rfl, _, _, _, hc3, fun w58 q59 X58 b58 hq59 hq59' => ?_⟩
  have s58 := Step.of_no X58 ok
  have h58 := h.step s58 id
  refine ⟨X58.cell hc3 id, cq s58, cq s58, ?_⟩
  obtain ⟨a6, n6, c6, w64, o64, hrun, s64, hcan, hst⟩ := h58.pushKey s58.ok (by omega) x b58 (X58.cell hc3 id)
  have s64' := s58.none.trans s64
  refine ⟨a6, n6, c6, w64, hrun, (M.step s58).keep s64 (fun p hp => by rw [List.mem_singleton.1 hp]; exact hpq), cq s64', _, rfl, ?_⟩
  have a30 : ((blk q).add 3).add 0 = (blk q).add 3 := by rw [add_add]
  rw [a30]
  refine ⟨hcan, fun p hp => by rw [List.mem_singleton.1 hp, Q1a]; exact hpq, Q01 fun w67 e67 => ?_⟩
  obtain ⟨s67, E67⟩ := hst w67 e67
  have s67' := s58.none.trans s67
  obtain ⟨oa1, oc1, hc4⟩ := E67.oldsC
  refine ⟨_, cq s67', _, cq s67', _, rfl, _, _, _, hc4, fun w68 X68 => ?_⟩
  have s68 := Step.of_no X68 s67'.ok
  refine (Q1G ((hold.step s67').step s68).1 (by omega)).mono fun u w78 ⟨ca, cc, he, hcc, hcr, X78, hcf⟩ => ⟨_, _, _, he, ?_⟩
  have s78 := Step.of_no X78 s68.ok
  have s678 := s68.trans s78
  have s78' := s67'.trans s678.none
  have X6778 := X68.trans X78
  have bsx : BSk w78 (grow w68 (grow w67 (grow w64 o64))) ⟨ca, cc, b⟩ := ⟨Row.fresh hcr fun ad ha => (hcf ad ha).1, hcc⟩
  refine ⟨X6778.cell hc4 id, cq s78', cq s78', fun w82 q83 X82 b82 hq83 hq83' => ?_⟩
  have s82 := Step.of_no X82 s78.ok
  have s82' := s78'.trans s82.none
  have E82 := (E67.step s678 id).step s82 id
  refine ⟨(X6778.trans X82).cell hc4 id, cq s82', cq s82', ?_⟩
  obtain ⟨a8, n8, c8, w88, o88, hrun8, s88, hcan8, hst8⟩ := E82.pushOld s82.ok (by show R.olds.length < 1000000; omega) (bsx.step s82) b82 ((X6778.trans X82).cell hc4 id)
  have s88' := s82'.trans s88
  have a40 : ((blk q).add 4).add 0 = (blk q).add 4 := by rw [add_add]
  refine ⟨a8, n8, c8, w88, hrun8, cq s88', _, rfl, ?_⟩
  rw [a40]
  refine ⟨hcan8, Q01 fun w91 e91 => ?_⟩
  obtain ⟨s91, E91⟩ := hst8 w91 e91
  have s91' := s82'.trans s91
  refine ⟨_, cq s91', ?_⟩
  have E91 : EG w91 (grow w88 o88) q k { R with keys := R.keys ++ [x], olds := R.olds ++ [b] } := E91
  have hlen : (R.keys ++ [x]).length = R.keys.length + 1 := by simp
  have bk := Q6h E91 (hP.step s91' hkq) s91'.ok hqk hS (by show (R.keys ++ [x]).length = (R.olds ++ [b]).length; simp [hl]) (by show 0 < (R.keys ++ [x]).length; omega) (by show (R.keys ++ [x]).length < _; omega) (fun y hy => by
    rcases List.mem_append.1 hy with hy | hy
    · exact hol y hy
    · rw [List.mem_singleton.1 hy]; exact hb)
  refine Calls.mono bk fun u w95 ⟨he, o95, s95, E95⟩ => ⟨he, hΦ w95 o95 (s91'.trans s95) ?_⟩
  have E95 : EG w95 o95 q k { R with keys := backK S (R.olds ++ [b]) ((R.keys ++ [x]).length - 1) (R.keys ++ [x]), olds := R.olds ++ [b] } := E95
  rw [hlen, Nat.add_sub_cancel] at E95
  exact E95
theorem Q3X (h : EG w o q k R) (hP : POrc w o k S) (ok : Tags w o) (hqk : q ≠ k) (hS : Short S) (hl : R.keys.length = R.olds.length) (h1 : R.keys.length < 1000) (hol : ∀ b ∈ R.olds, b.length < 1000000) (hC : CH w o cg wa wc l oa oc) :
    Calls Try.prog 25 #[.pointer (some (blk q)), chgV cg wa wc oa oc] w (Ret (.int .i64 (learnK S R cg).2) fun w' => ∃ o', Step (fun j => j = q) w o w' o' ∧ EG w' o' q k (learnK S R cg).1) := by
  refine Q0l.run _ _ _ _ _ _ _ _ _ _ _ ?_
  unfold Q0l.N
  intro w8 qc X8 b8 hqc hqc'
  have s8 := Step.of_no X8 ok
  have hq8 : Blk w8 qc 34 [.pointer (some (blk q))] ∧ grow w o qc = none := ⟨b8, grow_ge hqc⟩
  have bad : ∀ (k2 : Int) (w9 : World) (o9 : Own), learnK S R cg = (R, k2) → Step no w o w9 o9 → Value.int .i64 k2 = .int .i64 (learnK S R cg).2 ∧ ∃ o', Step (fun j => j = q) w o w9 o' ∧ EG w9 o' q k (learnK S R cg).1 := fun k2 w9 o9 hK s9 => by
    rw [hK]; exact ⟨rfl, o9, s9.none, h.step s9 id⟩
  have hlen : cg.ws.length = l.length := by rw [← hC.m]; simp
  refine ⟨_, b8.cella (i := 0) rfl, fun e => (by cases e), fun _ => ⟨fun hk w10 X10 => ?_, fun hk w10 pp X10 P10 => ?_⟩⟩
  · exact bad 1 w10 _ (by unfold learnK; rw [if_pos (.inl hk)]) (s8.trans (Step.of_no X10 s8.ok))
  obtain ⟨s10', M10⟩ := Step.priv X10 P10 s8.ok
  have s10 := s8.trans s10'
  have hpp := P10 pp (by simp)
  have l8 := X8.size
  have hql := h.lt
  have hpq : pp ≠ q := by omega
  have R10 := Q3U (w := w10) (cg := cg) (wa := wa) (oa := oa) (wc := wc) (oc := oc) (hC.step s10).ws.1 hC.m hC.n hC.ol
  refine Calls.mono R10 fun u w20 ⟨he, X20⟩ => ⟨_, he, (M10.keep (Step.of_no X20 s10'.ok) fun _ _ h => h), fun hr => ?_, fun hr => ?_⟩
  · exact bad 1 w20 _ (by unfold learnK; rw [if_pos (.inr hr)]) (s10.trans (Step.of_no X20 s10.ok))
  have t20 := Step.of_no X20 s10.ok
  have s20 := s10.trans t20
  have M20 := M10.step t20
  have E20 := h.step s20 id
  have hq20 := Q1P (Q1P hq8 s10') t20
  obtain ⟨ka, kc, hc3⟩ := E20.keysC
  refine ⟨_, hq20.1.cella (i := 0) rfl, _, rfl, _, _, _, hc3, fun h20 => ?_, fun h20 => ?_⟩
  · exact bad 3 w20 _ (by unfold learnK; rw [if_neg (by rw [hr]; simp [hk]), if_pos (by omega)]) s20
  have hK : learnK S R cg = ({ R with keys := backK S (R.olds ++ [cg.old]) R.keys.length (R.keys ++ [(toldBy S R cg).1]), olds := R.olds ++ [cg.old] }, (toldBy S R cg).2) := by
    unfold learnK; rw [if_neg (by rw [hr]; simp [hk]), if_neg (by omega)]
  have hCw := (hC.step s20).ws.1
  have ix := Q5E (wc := wc) E20 hq20.1 s20.ok hCw hC.n
  rw [hlen]
  refine Calls.mono ix fun u w30 ⟨he, X30⟩ => ⟨_, he, M20.keep (Step.of_no X30 s20.ok) (fun _ _ h => h), ?_⟩
  have t30 := Step.of_no X30 s20.ok
  have s30 := s20.trans t30
  have M30 := M20.step t30
  have E30 := h.step s30 id
  have P30 := hP.step s30 id
  have C30 := hC.step s30
  have hq30 := Q1P hq20 t30
  have fin : ∀ (x : Int) (w9 : World) (o9 : Own), (toldBy S R cg).2 = x → ∀ (w1 : World) (o1 : Own), Step no w o w1 o1 → Step (fun j => j = q) w1 o1 w9 o9 → EG w9 o9 q k { R with keys := backK S (R.olds ++ [cg.old]) R.keys.length (R.keys ++ [(toldBy S R cg).1]), olds := R.olds ++ [cg.old] } → Value.int .i64 x = .int .i64 (learnK S R cg).2 ∧ ∃ o', Step (fun j => j = q) w o w9 o' ∧ EG w9 o' q k (learnK S R cg).1 := fun x w9 o9 hx w1 o1 s1 s9 E9 => by
    rw [hK, ← hx]; exact ⟨rfl, o9, s1.none.trans s9, E9⟩
  refine ⟨fun hge => ?_, fun hlt => ?_⟩
  · rcases Q3P l R.who with ⟨i, x, g1, g2, g3, g4⟩ | ⟨g3, g4⟩
    · have ht : toldBy S R cg = Q12 S R.secret x.b := by unfold toldBy; rw [← hC.m, g4]; rfl
      have hil := (List.getElem?_eq_some_iff.1 g1).1
      obtain ⟨ad, had⟩ := C30.ws.1.faddr Wr.len (by decide) hil
      have hw30 := C30.ws.1
      rw [had] at hw30
      have cB : w30.cell? ((ad.add (i * 2)).add 1) = some (.slice x.a x.b.length x.c) := hw30.fcell Wr.len g1 1 rfl
      rw [g3]
      refine ⟨_, hq30.1.cella (i := 0) rfl, _, rfl, _, E30.orc, _, hq30.1.cella (i := 0) rfl, _, rfl, _, E30.secret, ad, had, by omega, by omega, _, _, _, by rw [Int.toNat_natCast]; exact cB, fun w32 X32 => ?_⟩
      have t32 := Step.of_no X32 s30.ok
      have s32 := s30.trans t32
      obtain ⟨x1, x2, x3⟩ := (hC.step s32).bs x (List.mem_of_getElem? g1)
      refine Calls.mono (UnwrapO (hP.step s32 id) R.secret x1.1 x3 x2) fun u w49 ⟨he, X49⟩ => ⟨_, _, he, (M30.step t32).keep (Step.of_no X49 s32.ok) (fun _ _ h => h), ?_⟩
      have t49 := Step.of_no X49 s32.ok
      have s49 := s32.trans t49
      have M49 := (M30.step t32).step t49
      refine Q3C (h.step s49 id) (hP.step s49 id) s49.ok hqk hS hl h1 hol (Q1P (Q1P hq30 t32) t49) M49 hpq (hC.step s49).old hC.ol (show (toldBy S R cg).1 = (Q12 S R.secret x.b).1 by rw [ht]) fun w9 o9 s9 E9 => ?_
      exact fin _ w9 o9 (by rw [ht]) _ _ s49 s9 E9
    · rw [g3] at hge; exact absurd hge (by decide)
  · rcases Q3P l R.who with ⟨i, x, g1, g2, g3, g4⟩ | ⟨g3, g4⟩
    · rw [g3] at hlt; omega
    · have ht : toldBy S R cg = (0, 11) := by unfold toldBy; rw [← hC.m, g4]
      refine Q3C E30 P30 s30.ok hqk hS hl h1 hol hq30 M30 hpq C30.old hC.ol (show (toldBy S R cg).1 = 0 by rw [ht]) fun w9 o9 s9 E9 => ?_
      exact fin _ w9 o9 (by rw [ht]) _ _ s30 s9 E9
end
open W (OwnB GivesW)
def only (k : Nat) (w : World) (o o' : Own) : Own := fun b => if b < w.heap.size then o b else if o' b = some k then some k else none
section
variable {w0 w w' w1 : World} {o0 o o' o1 : Own} {q k p N m : Nat} {K : Nat → Prop} {S : OS} {b : List UInt8} {a : Option Addr} {c : Nat} {cs : List Value}
theorem only_k (s : Step K w0 o0 w o) {b : Nat} (h : o b = some k) : only k w0 o0 o b = some k := by
  unfold only
  split
  · rename_i hb; rw [← s.same b hb]; exact h
  · first | rfl | rw [if_pos h]
theorem only_of (s : Step K w0 o0 w o) {b j : Nat} (h : only k w0 o0 o b = some j) : o b = some j := by
  unfold only at h
  split at h
  · rename_i hb; rw [s.same b hb]; exact h
  · split at h
    · rename_i h2; rw [h2, ← h]
    · cases h
theorem Q6m (s : Step K w0 o0 w o) {b : Nat} (h : o b = none) : only k w0 o0 o b = none := by
  cases hc : only k w0 o0 o b with
  | none => rfl
  | some j => rw [only_of s hc] at h; cases h
theorem Q2a (s : Step K w0 o0 w o) (k : Nat) : Step K w0 o0 w (only k w0 o0 o) :=
  ⟨s.ext, fun b hb => if_pos hb, s.ok0, fun b j hb hj => s.ok b j hb (only_of s hj)⟩
theorem Q1A (h : Row w o a cs) (s : Step K w0 o0 w o) (k : Nat) : Row w (only k w0 o0 o) a cs := ⟨h.1, fun h0 ad ha => Q6m s (h.2 h0 ad ha)⟩
theorem Q2u {e : TypeId} {size n : Nat} (h : LRow e size N w o a n c cs) (s : Step K w0 o0 w o) (hN : w0.heap.size ≤ N) (hk : k < N) : Row w (only k w0 o0 o) a cs := ⟨h.row, fun h0 ad ha => by
  rcases h with ⟨h1, h2, h3, h4⟩ | ⟨j, hj, hjw, g⟩
  · exact absurd h4 h0
  · have hg := g.tg ad ha
    show (if ad.block < w0.heap.size then o0 ad.block else if o ad.block = some k then some k else none) = none
    split
    · rename_i hb
      rw [s.same _ hb] at hg
      have := s.ok0 _ _ hb hg.1
      omega
    · rw [if_neg (fun e => by rw [hg.1] at e; cases e; omega)]⟩
theorem POrc.only (h : POrc w o k S) (s : Step K w0 o0 w o) : POrc w (only k w0 o0 o) k S := by
  obtain ⟨g, rfl, h1, h2, h3⟩ := h
  exact ⟨g, rfl, h1, fun b hb => only_k s (h2 b hb), fun b hb j hj hne => h3 b hb j (only_of s hj) hne⟩
theorem WRow.push {l : List Wr} (h : WRow N w o a c l) (ok : Tags w o) (hl : l.length < 1000000) (x : Wr) {q : Nat} (hb : Blk w q 115 x.C) (hq : N ≤ q) (hq' : q < w.heap.size) :
    ∃ a' n' c' w' o', (Builtin.append_ #[70, 70] 70 #[.slice a l.length c, .slice (some (blk q)) 1 1]).run Try.prog w = .ok (.slice a' n' c') w' ∧ n' = (l ++ [x]).length ∧ Step (fun j => N ≤ j) w o w' o' ∧ WRow N w' o' a' c' (l ++ [x]) ∧ Ext (fun b => ∃ ad, a = some ad ∧ b = ad.block) w w' := by
  obtain ⟨i, hi, hz, hsz, hby⟩ := info_of inf115
  obtain ⟨a', c', w', o', hrun, s2, hrow, hX⟩ := LRow.push (ty := 70) Try.underlying70 hi hz hsz hby rfl (by decide) h ok hq hq' (xa := some (blk q)) (m := 1) (xc := 1) (news := x.C) rfl (RowAt.of_blk hb) (fun u hu => by
    simp [Wr.C] at hu
    rcases hu with rfl | rfl <;> rfl) (by omega) (by omega)
  refine ⟨a', _, c', w', o', hrun, by simp, s2, ?_, hX⟩
  unfold WRow
  rw [List.length_append, List.flatMap_append]
  simpa using hrow
end

def wrapsL (S : OS) (key : Int) : List Mem → OS × List (Int × List UInt8)
  | [] => (S, [])
  | m :: r => ((wrapsL (wrapOf S m.pub key).2 key r).1, (m.who, (wrapOf S m.pub key).1.1) :: (wrapsL (wrapOf S m.pub key).2 key r).2)
theorem Q2q (key : Int) (m : Mem) : ∀ (l : List Mem) (S : OS), wrapsL S key (l ++ [m]) = ((wrapOf (wrapsL S key l).1 m.pub key).2, (wrapsL S key l).2 ++ [(m.who, (wrapOf (wrapsL S key l).1 m.pub key).1.1)])
  | [], S => rfl
  | x :: r, S => by
    have ih := Q2q key m r (wrapOf S x.pub key).2
    show ((wrapsL (wrapOf S x.pub key).2 key (r ++ [m])).1, (x.who, (wrapOf S x.pub key).1.1) :: (wrapsL (wrapOf S x.pub key).2 key (r ++ [m])).2) = _
    rw [ih]
    rfl
def beginK (S : OS) (s : MS) (last : Int) : Chg × Int × OS :=
  let S1 := (keyOf S).2
  let key := (keyOf S).1
  let W := wrapsL S1 key (nowM s.ml)
  if 0 ≤ s.ep then (⟨3, 0, 0, 0, W.2, (sealOf W.1 key (boundE (s.ep + 1)) (boxL last.toNat 0)).1.1⟩, key, (sealOf W.1 key (boundE (s.ep + 1)) (boxL last.toNat 0)).2)
  else (⟨3, 0, 0, 0, W.2, []⟩, key, W.1)
theorem Q5z (S : OS) (p key : Int) : (wrapOf S p key).2.publics = S.publics ∧ (wrapOf S p key).2.keys = S.keys ∧ (wrapOf S p key).2.secrets = S.secrets ∧ (wrapOf S p key).2.sealed = S.sealed := by
  have hf := Q0R S
  unfold wrapOf
  split
  · split
    · exact ⟨hf.2.2.2.1, hf.2.1, hf.2.2.1, by first | exact hf.2.2.2.2.2.2.1 | exact hf.2.2.2.2.1 | exact hf.2.2.2.2.2.1⟩
    · exact ⟨rfl, rfl, rfl, rfl⟩
  · exact ⟨rfl, rfl, rfl, rfl⟩
theorem Q1L (key : Int) : ∀ (l : List Mem) (S : OS), S.ok → (wrapsL S key l).1.publics = S.publics ∧ (wrapsL S key l).1.keys = S.keys ∧ (wrapsL S key l).1.secrets = S.secrets ∧ (wrapsL S key l).1.sealed = S.sealed ∧ (wrapsL S key l).1.ok ∧ (wrapsL S key l).1.used.length ≤ S.used.length + l.length ∧ (wrapsL S key l).2.length = l.length
  | [], S, h => ⟨rfl, rfl, rfl, rfl, h, Nat.le_refl _, rfl⟩
  | m :: r, S, h => by
    obtain ⟨f1, f2, f3, f4⟩ := Q5z S m.pub key
    obtain ⟨k1, k2⟩ := Q69 h m.pub key
    obtain ⟨g1, g2, g3, g4, g5, g6, g7⟩ := Q1L key r (wrapOf S m.pub key).2 k1
    refine ⟨g1.trans f1, g2.trans f2, g3.trans f3, g4.trans f4, g5, ?_, ?_⟩
    · show (wrapsL (wrapOf S m.pub key).2 key r).1.used.length ≤ S.used.length + (r.length + 1); omega
    · show (wrapsL (wrapOf S m.pub key).2 key r).2.length + 1 = r.length + 1; omega
theorem Q3n (S : OS) : (keyOf S).2.publics = S.publics ∧ (keyOf S).2.secrets = S.secrets ∧ (keyOf S).2.sealed = S.sealed ∧ (keyOf S).2.wrapped = S.wrapped ∧ (keyOf S).2.keys = badd S.keys (keyOf S).1 := by
  have hf := Q0R S
  unfold keyOf
  exact ⟨hf.2.2.2.1, hf.2.2.1, by first | exact hf.2.2.2.2.2.2.1 | exact hf.2.2.2.2.1 | exact hf.2.2.2.2.2.1, by first | exact hf.2.2.2.2.2.2.2 | exact hf.2.2.2.2.2.1 | exact hf.2.2.2.2.2.2.2.1, rfl⟩
theorem Q38 {S : OS} {p key : Int} (hp : (alook S.publics p).isSome) (hk : key ∈ S.keys) : wrapOf S p key = ((boxL (freshOf S).1.toNat 8, 0), { (freshOf S).2 with wrapped := aput S.wrapped (freshOf S).1 (p, key) }) := by
  unfold wrapOf
  rw [if_pos hp, if_pos hk]
theorem key_in (S : OS) : (keyOf S).1 ∈ (keyOf S).2.keys := by
  rw [(Q3n S).2.2.2.2]
  exact Q1I.2 (.inr rfl)
section
variable {w w' w1 : World} {o o' o1 : Own} {q k p N m : Nat} {K : Nat → Prop} {S : OS} {s : MS} {a : Option Addr} {c : Nat}
theorem Q5C (hP : POrc w o k S) (ok : Tags w o) (hS : S.ok) (hlen : S.used.length + 20 < 1000000) (hr : Row w o a (s.ml.flatMap Mem.C)) (hs : s.ok) {last : Int} (hl0 : 0 ≤ last) (hl1 : last < 18446744073709551616)
    (hpub : ∀ m ∈ nowM s.ml, (alook S.publics m.pub).isSome) (hne : nowM s.ml ≠ []) :
    Calls Try.prog 21 #[.pointer (some (blk k)), .agg #[.slice a s.ml.length c, .int .i64 s.ep], .int .u64 last] w (fun x w' => ∃ o' wa wc oa oc, ∃ l : List Wr, x = .returned (.tuple #[chgV (beginK S s last).1 wa wc oa oc, .int .u64 (beginK S s last).2.1, .int .i64 0]) ∧ Step (fun j => j = k) w o w' o' ∧ POrc w' o' k (beginK S s last).2.2 ∧ CH w' o' (beginK S s last).1 wa wc l oa oc ∧ l.length ≤ wc ∧ (beginK S s last).1.old.length ≤ oc) := by
  refine (Q0V.go _ _ _ _ _ _ (R := fun v w' => ∃ o' wa wc oa oc, ∃ l : List Wr, v = (.tuple #[chgV (beginK S s last).1 wa wc oa oc, .int .u64 (beginK S s last).2.1, .int .i64 0]) ∧ Step (fun j => j = k) w o w' o' ∧ POrc w' o' k (beginK S s last).2.2 ∧ CH w' o' (beginK S s last).1 wa wc l oa oc ∧ l.length ≤ wc ∧ (beginK S s last).1.old.length ≤ oc) ?_).mono fun x w' ⟨v, he, o', wa, wc, oa, oc, l, hv, hw⟩ => ⟨o', wa, wc, oa, oc, l, by rw [he, hv], hw⟩
  unfold Q0V.N
  have hkl := hP.lt
  have hml := hs.le
  have hnl : (nowM s.ml).length ≤ 8 := Nat.le_trans (List.length_filter_le _ _) hml
  refine ⟨fun e => (by cases e), fun _ w6 p1 p2 X6 P6 => ?_⟩
  obtain ⟨s6, M6⟩ := Step.priv X6 P6 ok
  have g6 : ∀ p ∈ [p1, p2], w.heap.size ≤ p ∧ p < w6.heap.size := P6
  have gp1 := g6 p1 (by simp)
  have gp2 := g6 p2 (by simp)
  have kM : ∀ p ∈ [p1, p2], ¬ p = k := fun p hp => by have := (g6 p hp).1; omega
  refine Calls.mono (KeyO (hP.step s6 id) s6.ok hS (by omega)) fun u w20 ⟨o20, he, s20', P20⟩ => ⟨_, he, M6.keep s20' kM, fun w21 X21 => ?_⟩
  have M20 := M6.step s20'
  have s20 : Step (fun j => j = k) w o w20 o20 := s6.none.trans s20'
  obtain ⟨o21, s21'⟩ := Step.store1 X21 s20.ok (M20 p2 (by simp)).2
  have s21 : Step (fun j => j = k) w o w21 o21 := s20.trans' s21' fun i hi => .inr (by rw [hi]; exact gp2.1)
  have M21 := M20.step s21'
  have P21 := P20.step s21' (show ¬ k = p2 by omega)
  have r21 := hr.step s21
  refine Calls.mono (Q5p r21 s21.ok (by omega) s.ep) fun u w24 ⟨o24, na, nc, he, s24', r24, hnc⟩ => ⟨_, _, _, he, M21.keep s24' (fun _ _ h => h), ?_⟩
  have s24 := s21.trans s24'.none
  have M24 := M21.step s24'
  have P24 := P21.step s24' id
  obtain ⟨key, hkey⟩ : ∃ key, (keyOf S).1 = key := ⟨_, rfl⟩
  obtain ⟨S1, hS1⟩ : ∃ S1, (keyOf S).2 = S1 := ⟨_, rfl⟩
  have ok1 := Q4e hS
  have kf := Q3n S
  have kin := key_in S
  rw [hS1] at ok1 P24 kf kin
  rw [hkey] at kin
  obtain ⟨nl, hnow⟩ : ∃ nl, nowM s.ml = nl := ⟨_, rfl⟩
  have hB : beginK S s last = if 0 ≤ s.ep then (⟨3, 0, 0, 0, (wrapsL S1 key nl).2, (sealOf (wrapsL S1 key nl).1 key (boundE (s.ep + 1)) (boxL last.toNat 0)).1.1⟩, key, (sealOf (wrapsL S1 key nl).1 key (boundE (s.ep + 1)) (boxL last.toNat 0)).2)
      else (⟨3, 0, 0, 0, (wrapsL S1 key nl).2, []⟩, key, (wrapsL S1 key nl).1) := by
    unfold beginK
    rw [hS1, hkey, hnow]
  rw [hnow] at r24 hnc hnl hpub hne
  rw [hnow, hkey]
  obtain ⟨N, hN⟩ : ∃ N, w6.heap.size = N := ⟨_, rfl⟩
  have l6 := X6.size
  have l620 := s20'.size
  have l2021 := s21'.size
  have l2124 := s24'.size
  refine ⟨fun m vs w1 => ∃ (t : Nat) (o1 : Own) (a1 : Option Addr) (c1 : Nat) (l : List Wr), vs = [.int .u64 key, .int .i64 t, .int .i64 3, .int .i64 0, .int .u64 0, .int .i64 0, .slice a1 l.length c1, .slice none 0 0] ∧ m + t = nl.length ∧ Step (fun j => j = k) w o w1 o1 ∧ POrc w1 o1 k (wrapsL S1 key (nl.take t)).1 ∧ Mine [p1, p2] w1 o1 ∧ Row w1 o1 na (nl.flatMap Mem.C) ∧ WRow N w1 o1 a1 c1 l ∧ l.map Wr.p = (wrapsL S1 key (nl.take t)).2 ∧ (∀ x ∈ l, Row w1 o1 x.a (bytesV x.b) ∧ x.b.length ≤ x.c ∧ x.b.length < 1000000) ∧ N ≤ w1.heap.size,
    nl.length, ⟨0, o24, none, 0, [], rfl, rfl, s24, P24, M24, r24, LRow.nil _ _ _ _ _, rfl, fun x hx => (by cases hx), by omega⟩, ?_⟩
  intro m w35 i0 i1 i2 i3 i4 i5 i6a i6n i6c i7a i7n i7c hI
  obtain ⟨t, o35, a1, c1, l, hi, hm, s35, P35, M35, r35, L35, hlm, hlb, hNs⟩ := hI
  simp only [List.cons.injEq, Value.slice.injEq, Value.int.injEq, true_and, and_true] at hi
  obtain ⟨hkk, rfl, rfl, rfl, rfl, rfl, ⟨rfl, rfl, rfl⟩, rfl, rfl, rfl⟩ := hi
  replace hkk := hkk.symm
  subst hkk
  have fr := Q1L key (nl.take t) S1 ok1.1
  have htl0 : (nl.take t).length ≤ 8 := by rw [List.length_take]; omega
  have hll : l.length = (nl.take t).length := by have := congrArg List.length hlm; rw [List.length_map] at this; rw [this]; exact fr.2.2.2.2.2.2
  have hus := ok1.2
  refine ⟨fun ht => ?_, fun ht => ?_⟩
  · have htl : t < nl.length := by omega
    have hg : nl[t]? = some nl[t] := List.getElem?_eq_getElem htl
    have hmem := List.getElem_mem htl
    have htk : nl.take (t + 1) = nl.take t ++ [nl[t]] := by rw [List.take_add_one, hg]; rfl
    generalize nl[t] = x at *
    have hr1 := r35.1
    obtain ⟨ad, rfl⟩ := hr1.faddr Mem.len (by decide) htl
    refine ⟨ad, rfl, by omega, by omega, x.who, x.pub, x.fr, x.to_, x.lim, by rw [Int.toNat_natCast]; exact hr1.floads Mem.len hg, fun w49 p50 X49 P49 => ?_⟩
    obtain ⟨s49', M49⟩ := Step.priv X49 P49 s35.ok
    have g50 := P49 p50 (by simp)
    have M3 : Mine [p1, p2, p50] w49 (tags w35 o35 [p50]) := fun y hy => by
      rcases List.mem_cons.1 hy with rfl | hy
      · exact (M35.step s49') _ (by simp)
      · rcases List.mem_cons.1 hy with rfl | hy
        · exact (M35.step s49') _ (by simp)
        · exact M49 _ hy
    have hxp : (alook (wrapsL S1 key (nl.take t)).1.publics x.pub).isSome := by rw [fr.1, kf.1]; exact hpub x hmem
    have hxk : key ∈ (wrapsL S1 key (nl.take t)).1.keys := by rw [fr.2.1]; exact kin
    have hw := WrapO (P35.step s49' id) s49'.ok fr.2.2.2.2.1 (by omega) x.pub key
    have hwk := Q38 hxp hxk
    refine Calls.mono hw fun u w54 ⟨o54, xa, xc, he, s54, xr, hxc, P54⟩ => ⟨_, _, _, _, he, M3.keep s54 (fun y hy => ?_), fun hne' => absurd (by rw [hwk]) hne', fun _ w62 q63 X62 b62 hq62 hq62' => ?_⟩
    · rcases List.mem_cons.1 hy with rfl | hy
      · omega
      · rcases List.mem_cons.1 hy with rfl | hy
        · omega
        · rw [List.mem_singleton.1 hy]; omega
    have s3554 := s49'.none.trans s54
    have t62 := Step.of_no X62 s54.ok
    have s62 := s3554.trans t62.none
    have L62 : WRow N w62 _ i6a i6c l := LRow.step L35 s62 fun j hj => .inl (by rw [hj]; omega)
    have l49 := X49.size
    have l54 := s54.size
    obtain ⟨a2, n2, c2, w65, o65, hrun, hn2, s65, L65, X65⟩ := L62.push s62.ok (by omega) ⟨x.who, xa, xc, (wrapOf (wrapsL S1 key (nl.take t)).1 x.pub key).1.1⟩ b62 (by omega) hq62'
    subst hn2
    have M62 := (M35.step s3554).step t62
    refine ⟨a2, _, c2, w65, hrun, M62.keep s65 (fun y hy => by have := (g6 y hy).2; omega), by omega, by omega, fun w66 X66 => ?_⟩
    have M65 := M62.step s65
    obtain ⟨o66, s66⟩ := Step.store1 X66 s65.ok (M65 p2 (by simp)).2
    have hall : Step (fun j => j = k) w o w66 o66 := ((s35.trans s62).trans' s65 fun i hi => .inr (by omega)).trans' s66 fun i hi => .inr (by rw [hi]; exact gp2.1)
    have L66 : WRow N w66 o66 a2 c2 (l ++ [⟨x.who, xa, xc, (wrapOf (wrapsL S1 key (nl.take t)).1 x.pub key).1.1⟩]) := LRow.step L65 s66 fun j hj => .inl (by rw [hj]; omega)
    have hsn := Q2q key x (nl.take t) S1
    refine ⟨m - 1, by omega, t + 1, o66, a2, c2, _, rfl, by omega, hall, ?_, M65.step s66, ((r35.step s62).step s65).step s66, L66, ?_, fun y hy => ?_, by have := X62.size; have := X65.size; have := X66.size; omega⟩
    · rw [htk, hsn]
      exact ((P54.step t62 id).step s65 (show ¬ N ≤ k by omega)).step s66 (show ¬ k = p2 by omega)
    · rw [htk, hsn, List.map_append, hlm]; rfl
    · rcases List.mem_append.1 hy with hy | hy
      · obtain ⟨y1, y2⟩ := hlb y hy
        exact ⟨((y1.step s62).step s65).step s66, y2⟩
      · rw [List.mem_singleton.1 hy]
        exact ⟨((xr.step t62).step s65).step s66, hxc, by rw [hwk, Q18]; decide⟩
  · have htt : t = nl.length := by omega
    subst htt
    rw [List.take_of_length_le (Nat.le_refl _)] at hlm P35 fr hll
    have hll0 : 0 < nl.length := by
      cases nl with
      | nil => exact absurd rfl hne
      | cons _ _ => simp
    refine ⟨fun h0 => absurd h0 (by omega), fun _ => ⟨fun hep => ?_, fun hep w98 X98 => ?_⟩⟩
    · refine ⟨by have := hs.ep1; omega, by have := hs.ep1; omega, ?_⟩
      refine (Q3L (e := s.ep + 1) (by omega) (by have := hs.ep1; omega) w35).mono fun u w78 ⟨ba, bc, he, hO, X78⟩ => ⟨_, _, _, he, ?_⟩
      have t78 := Step.of_no X78 s35.ok
      have Mp2 : Mine [p2] w35 o35 := M35.sub fun p hp => by rw [List.mem_singleton.1 hp]; simp
      refine ⟨Mp2.keep t78 (fun _ _ h => h), ?_⟩
      obtain ⟨ln, rfl⟩ := Int.eq_ofNat_of_zero_le hl0
      refine (Q5v (h := ln) (by omega) w78).mono fun u w81 ⟨ea, ec, he, hE, X81⟩ => ⟨_, _, _, he, ?_⟩
      have t81 := Step.of_no X81 t78.ok
      refine ⟨(Mp2.step t78).keep t81 (fun _ _ h => h), ?_⟩
      have t7881 := t78.trans t81
      have rb : Row w81 _ ba (bytesV (boundE (s.ep + 1))) := (Q1D hO X78 : Row w78 (grow w35 o35) ba _).step t81
      have re : Row w81 _ ea (bytesV (boxL ln 0)) := (Q1D hE X81 : Row w81 (grow w78 (grow w35 o35)) ea _)
      have hse := SealO (P35.step t7881 id) t81.ok fr.2.2.2.2.1 (by omega) key (bc := bc) (pc := ec) rb re (by have := Q4n (s.ep + 1); omega) (by rw [Q18]; decide)
      refine Calls.mono hse fun u w85 ⟨o85, za, zc, he, s85, zr, hzc, P85⟩ => ⟨_, _, _, _, he, ((Mp2.step t78).step t81).keep s85 (fun y hy => by rw [List.mem_singleton.1 hy]; omega), fun w92 X92 => ?_⟩
      have M85 := ((Mp2.step t78).step t81).step s85
      obtain ⟨o92, s92⟩ := Step.store1 X92 s85.ok (M85 p2 (by simp)).2
      have sA := t7881.none.trans s85
      have sB : Step (fun j => j = k ∨ j = p2) w35 o35 w92 o92 := (sA.mono fun _ h _ => .inl h).trans (s92.mono fun _ h _ => .inr h)
      have sW : Step (fun j => j = k) w o w92 o92 := (s35.trans sA).trans' s92 fun i hi => .inr (by rw [hi]; exact gp2.1)
      have L92 : WRow N w92 o92 i6a i6c l := LRow.step L35 sB fun j hj => .inl (by rcases hj with h | h <;> omega)
      have hB2 : beginK S s ((ln : Nat) : Int) = (⟨3, 0, 0, 0, (wrapsL S1 key nl).2, (sealOf (wrapsL S1 key nl).1 key (boundE (s.ep + 1)) (boxL ln 0)).1.1⟩, key, (sealOf (wrapsL S1 key nl).1 key (boundE (s.ep + 1)) (boxL ln 0)).2) := by rw [hB, if_pos hep]; rfl
      rw [hB2]
      have hlw : l.length = (wrapsL S1 key nl).2.length := by rw [← hlm, List.length_map]
      refine ⟨only k w o o92, i6a, i6c, za, zc, l, by rw [hlw]; rfl, Q2a sW k, (P85.step s92 (show ¬ k = p2 by omega)).only sW, ⟨Q2u L92 sW (by omega) (by omega), hlm, fun x hx => ?_, Q1A (zr.step s92) sW k, ?_, by omega⟩, L92.le, hzc⟩
      · obtain ⟨y1, y2⟩ := hlb x hx
        exact ⟨Q1A (y1.step sB) sW k, y2⟩
      · show (sealOf (wrapsL S1 key nl).1 key (boundE (s.ep + 1)) (boxL ln 0)).1.1.length < 1000000
        unfold sealOf
        split
        · split
          · show (0 : Nat) < _; decide
          · show (boxL _ _).length < _
            rw [Q18]
            have := Q1r (classOf (boxL ln 0).length)
            omega
        · show (0 : Nat) < _; decide
    · obtain ⟨o98, s98⟩ := Step.store1 X98 s35.ok (M35 p2 (by simp)).2
      have sW : Step (fun j => j = k) w o w98 o98 := s35.trans' s98 fun i hi => .inr (by rw [hi]; exact gp2.1)
      have L98 : WRow N w98 o98 i6a i6c l := LRow.step L35 s98 fun j hj => .inl (by rw [hj]; omega)
      have hB2 : beginK S s last = (⟨3, 0, 0, 0, (wrapsL S1 key nl).2, []⟩, key, (wrapsL S1 key nl).1) := by rw [hB, if_neg (by omega)]
      rw [hB2]
      have hlw : l.length = (wrapsL S1 key nl).2.length := by rw [← hlm, List.length_map]
      refine ⟨only k w o o98, i6a, i6c, none, 0, l, by rw [hlw]; rfl, Q2a sW k, (P35.step s98 (show ¬ k = p2 by omega)).only sW, ⟨Q2u L98 sW (by omega) (by omega), hlm, fun x hx => ?_, Row.nil _ _ _, by show (0 : Nat) < _; decide, by omega⟩, L98.le, Nat.le_refl _⟩
      obtain ⟨y1, y2⟩ := hlb x hx
      exact ⟨Q1A (y1.step s98) sW k, y2⟩
end
open W (OwnB GivesW)
section
variable {w0 w w' w1 : World} {o0 o o' o1 : Own} {q k j p n m : Nat} {K : Nat → Prop} {S : OS} {b x : List UInt8} {a ba pa xa : Option Addr} {c bc pc xc : Nat} {d : List Int} {L : List RRow}
theorem keyInv (h : OInv S) : OInv (keyOf S).2 := by
  obtain ⟨f1, f2, f3, f4, f5⟩ := Q1H h
  exact ⟨f1.ok, f1.rng, f1.hu, f1.hi, f1.sg, f1.gs, f1.su, f1.pu, f1.ps, f1.eu⟩
theorem sealInv (h : OInv S) (key : Int) (b p : List UInt8) : OInv (sealOf S key b p).2 := by
  obtain ⟨f1, _⟩ := Q1H h
  unfold sealOf
  split
  · split
    · exact h
    · exact ⟨f1.ok, f1.rng, f1.hu, f1.hi, f1.sg, f1.gs, f1.su, f1.pu, f1.ps, f1.eu⟩
  · exact h
theorem wrapInv (h : OInv S) (p key : Int) : OInv (wrapOf S p key).2 := by
  obtain ⟨f1, _⟩ := Q1H h
  unfold wrapOf
  split
  · split
    · exact ⟨f1.ok, f1.rng, f1.hu, f1.hi, f1.sg, f1.gs, f1.su, f1.pu, f1.ps, f1.eu⟩
    · exact h
  · exact h
theorem Q6B (h : RFine n d L) (key : Int) {b p : List UInt8} (hb : b.length < 1000000) (hp : p.length < 1000000) : RFine (n + 1) (sealR d L key b p).2.1 (sealR d L key b p).2.2 := by
  unfold sealR
  split
  · exact h.more
  · split
    · exact h.more
    · exact h.put _ ⟨hb, hp⟩
theorem Q6v (h : RFine n d L) (p key : Int) : RFine (n + 1) (wrapR d L p key).2.1 (wrapR d L p key).2.2 := by
  unfold wrapR
  split
  · exact h.more
  · split
    · exact h.more
    · exact h.put _ ⟨by show (0 : Nat) < _; decide, by show (0 : Nat) < _; decide⟩
theorem Rof.key (h : Rof w o j S n) (hn : n + 1 < 1000000) :
    Calls Try.prog 44 #[.pointer (some (blk j))] w (Gs (fun i => i = j) w o (u64V (keyOf S).1) fun w' o' => Rof w' o' j (keyOf S).2 (n + 1)) := by
  obtain ⟨d, R, h1, h2, h3⟩ := h.ex
  obtain ⟨e1, e2⟩ := key_sim h2
  refine (Q6d h1 (h3.rok h.ok (by omega))).mono fun x w' ⟨o', he, s, r⟩ => ⟨o', by rw [he, e1]; rfl, s, ⟨_, _, r, e2, h3.put _ (by decide)⟩, s.ok, keyInv h.inv⟩
theorem Rof.sealK (h : Rof w o j S n) (hn : n + 1 < 1000000) (key : Int) (hb : Row w o ba (bytesV b)) (hbc : b.length ≤ bc) (hp : Row w o pa (bytesV x)) (hpc : x.length ≤ pc) (hbl : b.length < 1000000) (hpl : x.length < 1000000) :
    Calls Try.prog 47 #[.pointer (some (blk j)), .int .u64 key, .slice ba b.length bc, .slice pa x.length pc] w (Gb (fun i => i = j) w o (sealOf S key b x).1 fun w' o' => Rof w' o' j (sealOf S key b x).2 (n + 1)) := by
  obtain ⟨d, R, h1, h2, h3⟩ := h.ex
  obtain ⟨e1, e2⟩ := Q6F h2 key b x
  refine (Q5y h1 (h3.rok h.ok (by omega)) key hb hbc hp hpc).mono fun y w' ⟨o', a', c', he, s, hr, hc, r⟩ => ⟨o', a', c', by rw [he, e1], s, by rw [← e1]; exact hr, by rw [← e1]; exact hc, ⟨_, _, r, e2, Q6B h3 key hbl hpl⟩, s.ok, sealInv h.inv key b x⟩
theorem Rof.wrap (h : Rof w o j S n) (hn : n + 1 < 1000000) (p key : Int) :
    Calls Try.prog 46 #[.pointer (some (blk j)), .int .u64 p, .int .u64 key] w (Gb (fun i => i = j) w o (wrapOf S p key).1 fun w' o' => Rof w' o' j (wrapOf S p key).2 (n + 1)) := by
  obtain ⟨d, R, h1, h2, h3⟩ := h.ex
  obtain ⟨e1, e2⟩ := Q6z h2 p key
  refine (Q5K h1 (h3.rok h.ok (by omega)) p key).mono fun y w' ⟨o', a', c', he, s, hr, hc, r⟩ => ⟨o', a', c', by rw [he, e1], s, by rw [← e1]; exact hr, by rw [← e1]; exact hc, ⟨_, _, r, e2, Q6v h3 p key⟩, s.ok, wrapInv h.inv p key⟩
theorem Rof.unwrap (h : Rof w o j S n) (hn : n < 1000000) (s : Int) (hx : RowAt w xa (bytesV x)) (hxl : x.length < 1000000) :
    Calls Try.prog 62 #[.pointer (some (blk j)), .int .u64 s, .slice xa x.length xc] w (Ret (.tuple #[.int .u64 (Q12 S s x).1, .int .i64 (Q12 S s x).2]) fun w' => Ext no w w') := by
  obtain ⟨d, R, h1, h2, h3⟩ := h.ex
  have := Q4F (xc := xc) h1 (h3.rok h.ok (by omega)) s hx hxl
  rw [Q5M h2] at this
  exact this
theorem Rof.only (h : Rof w o j S n) (s : Step K w0 o0 w o) : Rof w (only j w0 o0 o) j S n := by
  obtain ⟨d, L, ⟨R, e, hR⟩, h2, h3⟩ := h.ex
  refine ⟨⟨d, L, ⟨R, e, ⟨only_k s hR.tk, ?_, fun x hx => ?_⟩⟩, h2, h3⟩, (Q2a s j).ok, h.inv⟩
  · obtain ⟨da, dc, la, lc, hb, hd, hda, hg, hne⟩ := hR.at_
    exact ⟨da, dc, la, lc, hb, hd, Q1A hda s j, ⟨hg.own, fun ad ha => ⟨only_k s (hg.tg ad ha).1, (hg.tg ad ha).2⟩⟩, hne⟩
  · obtain ⟨x1, x2, x3⟩ := hR.rows x hx
    exact ⟨Q1A x1 s j, Q1A x2 s j, x3⟩
theorem Q4c {h : Nat} (hh : h < 18446744073709551616) (w : World) :
    Calls Try.prog 49 #[.int .u64 h] w (fun e w' => ∃ a' c', e = .returned (.slice a' (boxL h 0).length c') ∧ OwnB w.heap.size w' a' c' (boxL h 0) ∧ Ext no w w') := by
  refine (Q0K.go _ (R := fun v w' => ∃ a' c', v = .slice a' (boxL h 0).length c' ∧ OwnB w.heap.size w' a' c' (boxL h 0) ∧ Ext no w w') ?_).mono fun e w' ⟨v, he, a', c', hv, hw⟩ => ⟨a', c', by rw [he, hv], hw⟩
  unfold Q0K.N
  refine ⟨fun q vs w1 => ∃ (t : Nat) (a : Option Addr) (c : Nat), vs = [.int .u64 ((h / 256 ^ t : Nat) : Int), .slice a (tailB h t).length c, .int .i64 t] ∧ q + t = 8 ∧ OwnB w.heap.size w1 a c (tailB h t) ∧ Ext no w w1, 8, ⟨0, none, 0, by simp [tailB], rfl, OwnB.nil _ _, Ext.refl _ _⟩, ?_⟩
  rintro q w1 n ba bn bc i ⟨t, a, c, hi, hq, hO, X1⟩
  simp only [List.cons.injEq, Value.int.injEq, Value.slice.injEq, true_and, and_true] at hi
  obtain ⟨rfl, ⟨rfl, rfl, rfl⟩, rfl⟩ := hi
  refine ⟨fun ht w9 q10 X9 hb hq10 hq10' => ?_, fun ht => ?_⟩
  · have ht : t < 8 := by omega
    have hp : 256 ^ t = 2 ^ (8 * t) := by rw [Nat.pow_mul]
    have hlt : h / 256 ^ t < 18446744073709551616 := Nat.lt_of_le_of_lt (Nat.div_le_self _ _) hh
    have hb' : Blk w9 q10 5 (bytesV [byteAt h (7 - t)]) := by
      have e : IntKind.u8.wrap (Int.tmod ((h / 256 ^ t : Nat) : Int) 256) = ((byteAt h (7 - t)).toNat : Int) := by
        rw [Q1z, show 56 - 8 * (7 - t) = 8 * t by omega, ← hp, show Int.tmod ((h / 256 ^ t : Nat) : Int) 256 = ((h / 256 ^ t % 256 : Nat) : Int) from rfl]
        exact wu8 (by omega) (by omega)
      rw [e] at hb
      exact hb
    have l1 := X1.size
    have hO9 : OwnB w.heap.size w9 (some (blk q10)) 1 [byteAt h (7 - t)] := ⟨Q1t hb' rfl (by show (1 : Nat) ≤ maxLen; unfold maxLen; decide), fun ad ha => by cases ha; exact ⟨by show _ ≤ q10; omega, hq10'⟩⟩
    obtain ⟨a', c', w12, hr, hO', hx⟩ := hO9.append (t := 25) (ty := 25) Try.underlying25 (Nat.le_trans l1 X9.size) (xc := bc) (xs := tailB h t) (hO.no X9).row (by simp [tailB]; omega)
    rw [show [byteAt h (7 - t)] ++ tailB h t = tailB h (t + 1) from (Q3T ht).symm] at hr hO'
    refine ⟨a', _, c', w12, hr, by omega, by omega, q - 1, by omega, t + 1, a', c', ?_, by omega, hO', (X1.trans X9).then hx fun b hb => .inr hb⟩
    have e : IntKind.u64.wrap (Int.tdiv ((h / 256 ^ t : Nat) : Int) 256) = ((h / 256 ^ (t + 1) : Nat) : Int) := by
      rw [show Int.tdiv ((h / 256 ^ t : Nat) : Int) 256 = ((h / 256 ^ t / 256 : Nat) : Int) from rfl, Nat.div_div_eq_div_mul, ← Nat.pow_succ]
      exact wu64 (Int.natCast_nonneg _) (by have := Nat.div_le_self h (256 ^ t.succ); omega)
    rw [e]
    rfl
  · obtain rfl : t = 8 := by omega
    have e : tailB h 8 = boxL h 0 := rfl
    rw [e] at hO ⊢
    exact ⟨ba, bc, rfl, hO, X1⟩
abbrev RWRow (N : Nat) (w : World) (o : Own) (a : Option Addr) (c : Nat) (l : List Wr) : Prop := LRow 119 2 N w o a l.length c (l.flatMap Wr.C)
theorem inf119 : (Try.prog.info? 119).map (fun i => (i.zero, i.size, i.bytes)) = some (some (.agg #[.int .i64 0, .slice none 0 0]), 2, 32) := by kernel_rfl
theorem RWRow.push {N : Nat} {l : List Wr} (h : RWRow N w o a c l) (ok : Tags w o) (hl : l.length < 1000000) (x : Wr) {q : Nat} (hb : Blk w q 119 x.C) (hq : N ≤ q) (hq' : q < w.heap.size) :
    ∃ a' n' c' w' o', (Builtin.append_ #[75, 75] 75 #[.slice a l.length c, .slice (some (blk q)) 1 1]).run Try.prog w = .ok (.slice a' n' c') w' ∧ n' = (l ++ [x]).length ∧ Step (fun j => N ≤ j) w o w' o' ∧ RWRow N w' o' a' c' (l ++ [x]) ∧ Ext (fun b => ∃ ad, a = some ad ∧ b = ad.block) w w' := by
  obtain ⟨i, hi, hz, hsz, hby⟩ := info_of inf119
  obtain ⟨a', c', w', o', hrun, s2, hrow, hX⟩ := LRow.push (ty := 75) Try.underlying75 hi hz hsz hby rfl (by decide) h ok hq hq' (xa := some (blk q)) (m := 1) (xc := 1) (news := x.C) rfl (RowAt.of_blk hb) (fun u hu => by
    simp [Wr.C] at hu
    rcases hu with rfl | rfl <;> rfl) (by omega) (by omega)
  refine ⟨a', _, c', w', o', hrun, by simp, s2, ?_, hX⟩
  unfold RWRow
  rw [List.length_append, List.flatMap_append]
  simpa using hrow
end
section
variable {w w' w1 : World} {o o' o1 : Own} {q k p N m j n : Nat} {K : Nat → Prop} {S : OS} {s : MS} {a : Option Addr} {c : Nat}
theorem Q4M (hP : Rof w o j S n) (hS : S.ok) (hlen : n + 20 < 1000000) (hr : Row w o a (s.ml.flatMap Mem.C)) (hs : s.ok) {last : Int} (hl0 : 0 ≤ last) (hl1 : last < 18446744073709551616)
    (hpub : ∀ m ∈ nowM s.ml, (alook S.publics m.pub).isSome) (hne : nowM s.ml ≠ []) :
    Calls Try.prog 22 #[.pointer (some (blk j)), .agg #[.slice a s.ml.length c, .int .i64 s.ep], .int .u64 last] w (fun x w' => ∃ o' wa wc oa oc, ∃ l : List Wr, x = .returned (.tuple #[chgV (beginK S s last).1 wa wc oa oc, .int .u64 (beginK S s last).2.1, .int .i64 0]) ∧ Step (fun i => i = j) w o w' o' ∧ Rof w' o' j (beginK S s last).2.2 (n + 10) ∧ CH w' o' (beginK S s last).1 wa wc l oa oc ∧ l.length ≤ wc ∧ (beginK S s last).1.old.length ≤ oc) := by
  refine (Q0q.go _ _ _ _ _ _ (R := fun v w' => ∃ o' wa wc oa oc, ∃ l : List Wr, v = (.tuple #[chgV (beginK S s last).1 wa wc oa oc, .int .u64 (beginK S s last).2.1, .int .i64 0]) ∧ Step (fun i => i = j) w o w' o' ∧ Rof w' o' j (beginK S s last).2.2 (n + 10) ∧ CH w' o' (beginK S s last).1 wa wc l oa oc ∧ l.length ≤ wc ∧ (beginK S s last).1.old.length ≤ oc) ?_).mono fun x w' ⟨v, he, o', wa, wc, oa, oc, l, hv, hw⟩ => ⟨o', wa, wc, oa, oc, l, by rw [he, hv], hw⟩
  unfold Q0q.N
  have ok := hP.ok
  have hkl := hP.lt
  have hul := hP.len
  have hml := hs.le
  have hnl : (nowM s.ml).length ≤ 8 := Nat.le_trans (List.length_filter_le _ _) hml
  intro w6 p1 p2 X6 P6
  obtain ⟨s6, M6⟩ := Step.priv X6 P6 ok
  have g6 : ∀ p ∈ [p1, p2], w.heap.size ≤ p ∧ p < w6.heap.size := P6
  have gp1 := g6 p1 (by simp)
  have gp2 := g6 p2 (by simp)
  have kM : ∀ p ∈ [p1, p2], ¬ p = j := fun p hp => by have := (g6 p hp).1; omega
  refine Calls.mono ((hP.step s6 id).key (by omega)) fun u w11 ⟨o11, he, s11', P11⟩ => ⟨_, he, M6.keep s11' kM, fun w18 p3 X18 P18 => ?_⟩
  have M11 := M6.step s11'
  have s11 : Step (fun i => i = j) w o w11 o11 := s6.none.trans s11'
  obtain ⟨s18', M18⟩ := Step.priv X18 P18 s11.ok
  have g3 := P18 p3 (by simp)
  have l6 := X6.size
  have l11 := s11'.size
  have l18 := X18.size
  have s18 := s11.trans s18'.none
  have M3 : Mine [p1, p2, p3] w18 (tags w11 o11 [p3]) := fun y hy => by
    rcases List.mem_cons.1 hy with rfl | hy
    · exact (M11.step s18') _ (by simp)
    · rcases List.mem_cons.1 hy with rfl | hy
      · exact (M11.step s18') _ (by simp)
      · exact M18 _ hy
  have P18' := P11.step s18' id
  have r18 := hr.step s18
  refine Calls.mono (Q4s r18 s18.ok (by omega) s.ep) fun u w22 ⟨o22, na, nc, he, s22', r22, hnc⟩ => ⟨_, _, _, he, M3.keep s22' (fun _ _ h => h), ?_⟩
  have s22 := s18.trans s22'.none
  have M22 := M3.step s22'
  have P22 := P18'.step s22' id
  have l22 := s22'.size
  obtain ⟨key, hkey⟩ : ∃ key, (keyOf S).1 = key := ⟨_, rfl⟩
  obtain ⟨S1, hS1⟩ : ∃ S1, (keyOf S).2 = S1 := ⟨_, rfl⟩
  have ok1 := Q4e hS
  have kf := Q3n S
  have kin := key_in S
  rw [hS1] at ok1 P22 kf kin
  rw [hkey] at kin
  obtain ⟨nl, hnow⟩ : ∃ nl, nowM s.ml = nl := ⟨_, rfl⟩
  have hB : beginK S s last = if 0 ≤ s.ep then (⟨3, 0, 0, 0, (wrapsL S1 key nl).2, (sealOf (wrapsL S1 key nl).1 key (boundE (s.ep + 1)) (boxL last.toNat 0)).1.1⟩, key, (sealOf (wrapsL S1 key nl).1 key (boundE (s.ep + 1)) (boxL last.toNat 0)).2)
      else (⟨3, 0, 0, 0, (wrapsL S1 key nl).2, []⟩, key, (wrapsL S1 key nl).1) := by
    unfold beginK
    rw [hS1, hkey, hnow]
  rw [hnow] at r22 hnc hnl hpub hne
  have hll0 : 0 < nl.length := by
    cases nl with
    | nil => exact absurd rfl hne
    | cons _ _ => simp
  rw [hnow, hkey]
  obtain ⟨N, hN⟩ : ∃ N, w18.heap.size = N := ⟨_, rfl⟩
  refine ⟨fun h0 => absurd h0 (by omega), fun _ => ?_⟩
  refine ⟨fun m vs w1 => ∃ (t : Nat) (o1 : Own) (a1 : Option Addr) (c1 : Nat) (l : List Wr), vs = [.int .i64 t, .int .i64 0, .int .i64 0, .int .u64 0, .int .i64 0, .slice none 0 0, .slice none 0 0, .int .i64 3, .int .i64 0, .int .u64 0, .int .i64 0, .slice a1 l.length c1, .slice none 0 0] ∧ m + t = nl.length ∧ Step (fun i => i = j) w o w1 o1 ∧ Rof w1 o1 j (wrapsL S1 key (nl.take t)).1 (n + 1 + t) ∧ Mine [p1, p2, p3] w1 o1 ∧ Row w1 o1 na (nl.flatMap Mem.C) ∧ RWRow N w1 o1 a1 c1 l ∧ l.map Wr.p = (wrapsL S1 key (nl.take t)).2 ∧ (∀ x ∈ l, Row w1 o1 x.a (bytesV x.b) ∧ x.b.length ≤ x.c ∧ x.b.length < 1000000) ∧ N ≤ w1.heap.size,
    nl.length, ⟨0, o22, none, 0, [], rfl, rfl, s22, P22, M22, r22, LRow.nil _ _ _ _ _, rfl, fun x hx => (by cases hx), by omega⟩, ?_⟩
  intro m w35 i0 i1 i2 i3 i4 i5a i5n i5c i6a i6n i6c i7 i8 i9 i10 i11a i11n i11c i12a i12n i12c hI
  obtain ⟨t, o35, a1, c1, l, hi, hm, s35, P35, M35, r35, L35, hlm, hlb, hNs⟩ := hI
  simp only [List.cons.injEq, Value.slice.injEq, Value.int.injEq, true_and, and_true] at hi
  obtain ⟨rfl, rfl, rfl, rfl, rfl, ⟨rfl, rfl, rfl⟩, ⟨rfl, rfl, rfl⟩, rfl, rfl, rfl, rfl, ⟨rfl, rfl, rfl⟩, ⟨rfl, rfl, rfl⟩⟩ := hi
  have fr := Q1L key (nl.take t) S1 ok1.1
  have htl0 : (nl.take t).length ≤ 8 := by rw [List.length_take]; omega
  have hll : l.length = (nl.take t).length := by have := congrArg List.length hlm; rw [List.length_map] at this; rw [this]; exact fr.2.2.2.2.2.2
  refine ⟨fun ht => ?_, fun ht => ?_⟩
  · have htl : t < nl.length := by omega
    have hg : nl[t]? = some nl[t] := List.getElem?_eq_getElem htl
    have hmem := List.getElem_mem htl
    have htk : nl.take (t + 1) = nl.take t ++ [nl[t]] := by rw [List.take_add_one, hg]; rfl
    generalize nl[t] = x at *
    have hr1 := r35.1
    obtain ⟨ad, rfl⟩ := hr1.faddr Mem.len (by decide) htl
    have hxp : (alook (wrapsL S1 key (nl.take t)).1.publics x.pub).isSome := by rw [fr.1, kf.1]; exact hpub x hmem
    have hxk : key ∈ (wrapsL S1 key (nl.take t)).1.keys := by rw [fr.2.1]; exact kin
    have hwk := Q38 hxp hxk
    refine ⟨ad, rfl, by omega, by omega, x.pub, by rw [Int.toNat_natCast]; exact hr1.fcell Mem.len hg 1 rfl, ?_⟩
    have hM : ∀ y ∈ [p1, p2, p3], ¬ y = j := fun y hy => by
      rcases List.mem_cons.1 hy with rfl | hy
      · omega
      · rcases List.mem_cons.1 hy with rfl | hy
        · omega
        · rw [List.mem_singleton.1 hy]; omega
    refine Calls.mono (P35.wrap (by omega) x.pub key) fun u w54 ⟨o54, xa, xc, he, s54, xr, hxc, P54⟩ => ⟨_, _, _, _, he, M35.keep s54 hM, fun hne' => absurd (by rw [hwk]) hne', fun _ => ⟨by omega, by omega, x.who, ?_, fun w62 q63 X62 b62 hq62 hq62' => ?_⟩⟩
    · rw [Int.toNat_natCast]; exact (r35.step s54).1.fcell Mem.len hg 0 rfl
    have t62 := Step.of_no X62 s54.ok
    have s62 := s54.trans t62.none
    have L62 : RWRow N w62 _ i11a i11c l := LRow.step L35 s62 fun j' hj => .inl (by rw [hj]; omega)
    have l54 := s54.size
    obtain ⟨a2, n2, c2, w65, o65, hrun, hn2, s65, L65, X65⟩ := L62.push s62.ok (by omega) ⟨x.who, xa, xc, (wrapOf (wrapsL S1 key (nl.take t)).1 x.pub key).1.1⟩ b62 (by omega) hq62'
    subst hn2
    have M62 := (M35.step s54).step t62
    have hMN : ∀ y ∈ [p1, p2, p3], ¬ N ≤ y := fun y hy => by
      rcases List.mem_cons.1 hy with rfl | hy
      · omega
      · rcases List.mem_cons.1 hy with rfl | hy
        · omega
        · rw [List.mem_singleton.1 hy]; omega
    refine ⟨a2, _, c2, w65, hrun, M62.keep s65 hMN, by omega, by omega, fun w66 X66 => ?_⟩
    have M65 := M62.step s65
    obtain ⟨o66, s66⟩ := Step.store1 X66 s65.ok (M65 p3 (by simp)).2
    have hall : Step (fun i => i = j) w o w66 o66 := ((s35.trans s62).trans' s65 fun i hi => .inr (by omega)).trans' s66 fun i hi => .inr (by rw [hi]; omega)
    have L66 : RWRow N w66 o66 a2 c2 (l ++ [⟨x.who, xa, xc, (wrapOf (wrapsL S1 key (nl.take t)).1 x.pub key).1.1⟩]) := LRow.step L65 s66 fun j' hj => .inl (by rw [hj]; omega)
    have hsn := Q2q key x (nl.take t) S1
    refine ⟨m - 1, by omega, t + 1, o66, a2, c2, _, rfl, by omega, hall, ?_, M65.step s66, ((r35.step s62).step s65).step s66, L66, ?_, fun y hy => ?_, by have := X62.size; have := X65.size; have := X66.size; omega⟩
    · rw [htk, hsn]
      exact ((P54.step t62 id).step s65 (show ¬ N ≤ j by omega)).step s66 (show ¬ j = p3 by omega)
    · rw [htk, hsn, List.map_append, hlm]; rfl
    · rcases List.mem_append.1 hy with hy | hy
      · obtain ⟨y1, y2⟩ := hlb y hy
        exact ⟨((y1.step s62).step s65).step s66, y2⟩
      · rw [List.mem_singleton.1 hy]
        exact ⟨((xr.step t62).step s65).step s66, hxc, by rw [hwk, Q18]; decide⟩
  · have htt : t = nl.length := by omega
    subst htt
    rw [List.take_of_length_le (Nat.le_refl _)] at hlm P35 fr hll
    have hlw : l.length = (wrapsL S1 key nl).2.length := by rw [← hlm, List.length_map]
    refine ⟨fun hep => ?_, fun hep w98 X98 => ?_⟩
    · have hep0 : 0 ≤ s.ep := by have := hs.ep0; omega
      have he1 := hs.ep1
      refine ⟨by omega, by omega, ?_⟩
      have hwe : IntKind.u64.wrap (s.ep + 1) = (((s.ep + 1).toNat : Nat) : Int) := by rw [wu64 (by omega) (by omega)]; omega
      rw [hwe]
      refine (W.rNum_spec (s.ep + 1).toNat w35 (by omega)).mono fun u w78 ⟨ba, bc, he, hO, X78⟩ => ⟨_, _, _, he, ?_⟩
      have hO : OwnB w35.heap.size w78 ba bc (boundE (s.ep + 1)) := hO
      have t78 := Step.of_no X78 s35.ok
      have Mp2 : Mine [p2, p3] w35 o35 := M35.sub fun p hp => by
        rcases List.mem_cons.1 hp with rfl | hp
        · simp
        · rw [List.mem_singleton.1 hp]; simp
      refine ⟨Mp2.keep t78 (fun _ _ h => h), ?_⟩
      obtain ⟨ln, rfl⟩ := Int.eq_ofNat_of_zero_le hl0
      refine (Q4c (h := ln) (by omega) w78).mono fun u w81 ⟨ea, ec, he, hE, X81⟩ => ⟨_, _, _, he, ?_⟩
      have t81 := Step.of_no X81 t78.ok
      refine ⟨(Mp2.step t78).keep t81 (fun _ _ h => h), ?_⟩
      have t7881 := t78.trans t81
      have rb : Row w81 _ ba (bytesV (boundE (s.ep + 1))) := (Q1D hO X78 : Row w78 (grow w35 o35) ba _).step t81
      have re : Row w81 _ ea (bytesV (boxL ln 0)) := (Q1D hE X81 : Row w81 (grow w78 (grow w35 o35)) ea _)
      have hbl := Q4n (s.ep + 1)
      have hse := (P35.step t7881 id).sealK (by omega) key (bc := bc) (pc := ec) rb (hO.le) re (hE.le) (by omega) (by rw [Q18]; decide)
      have hm85 : ∀ y ∈ [p2, p3], ¬ y = j := fun y hy => by
        rcases List.mem_cons.1 hy with rfl | hy
        · omega
        · rw [List.mem_singleton.1 hy]; omega
      refine Calls.mono hse fun u w85 ⟨o85, za, zc, he, s85, zr, hzc, P85⟩ => ⟨_, _, _, _, he, ((Mp2.step t78).step t81).keep s85 hm85, fun w92 X92 => ?_⟩
      have M85 := ((Mp2.step t78).step t81).step s85
      obtain ⟨o92, s92⟩ := Step.store2 X92 s85.ok (M85 p2 (by simp)).2 (M85 p3 (by simp)).2
      have sA := t7881.none.trans s85
      have sB : Step (fun i => i = j ∨ i = p2 ∨ i = p3) w35 o35 w92 o92 := (sA.mono fun _ h _ => .inl h).trans (s92.mono fun _ h _ => .inr h)
      have sW : Step (fun i => i = j) w o w92 o92 := (s35.trans sA).trans' s92 fun i hi => .inr (by rcases hi with h | h <;> omega)
      have L92 : RWRow N w92 o92 i11a i11c l := LRow.step L35 sB fun j' hj => .inl (by rcases hj with h | h | h <;> omega)
      have hB2 : beginK S s ((ln : Nat) : Int) = (⟨3, 0, 0, 0, (wrapsL S1 key nl).2, (sealOf (wrapsL S1 key nl).1 key (boundE (s.ep + 1)) (boxL ln 0)).1.1⟩, key, (sealOf (wrapsL S1 key nl).1 key (boundE (s.ep + 1)) (boxL ln 0)).2) := by rw [hB, if_pos hep0]; rfl
      rw [hB2]
      refine ⟨only j w o o92, i11a, i11c, za, zc, l, by rw [hlw]; rfl, Q2a sW j, ((P85.mono (by omega)).step s92 (show ¬ (j = p2 ∨ j = p3) by omega)).only sW, ⟨Q2u L92 sW (by omega) (by omega), hlm, fun x hx => ?_, Q1A (zr.step s92) sW j, ?_, by omega⟩, L92.le, hzc⟩
      · obtain ⟨y1, y2⟩ := hlb x hx
        exact ⟨Q1A (y1.step sB) sW j, y2⟩
      · show (sealOf (wrapsL S1 key nl).1 key (boundE (s.ep + 1)) (boxL ln 0)).1.1.length < 1000000
        unfold sealOf
        split
        · split
          · show (0 : Nat) < _; decide
          · show (boxL _ _).length < _
            rw [Q18]
            have := Q1r (classOf (boxL ln 0).length)
            omega
        · show (0 : Nat) < _; decide
    · have hep0 : ¬ 0 ≤ s.ep := by omega
      obtain ⟨o98, s98⟩ := Step.store1 X98 s35.ok (M35 p2 (by simp)).2
      have sW : Step (fun i => i = j) w o w98 o98 := s35.trans' s98 fun i hi => .inr (by rw [hi]; exact gp2.1)
      have L98 : RWRow N w98 o98 i11a i11c l := LRow.step L35 s98 fun j' hj => .inl (by rw [hj]; omega)
      have hB2 : beginK S s last = (⟨3, 0, 0, 0, (wrapsL S1 key nl).2, []⟩, key, (wrapsL S1 key nl).1) := by rw [hB, if_neg hep0]
      rw [hB2]
      refine ⟨only j w o o98, i11a, i11c, none, 0, l, by rw [hlw]; rfl, Q2a sW j, ((P35.mono (by omega)).step s98 (show ¬ j = p2 by omega)).only sW, ⟨Q2u L98 sW (by omega) (by omega), hlm, fun x hx => ?_, Row.nil _ _ _, by show (0 : Nat) < _; decide, by omega⟩, L98.le, Nat.le_refl _⟩
      obtain ⟨y1, y2⟩ := hlb x hx
      exact ⟨Q1A (y1.step s98) sW j, y2⟩
end
open W (OwnB GivesW)
def Rng.W (R : Rng) (ka : Option Addr) (kc : Nat) (oa : Option Addr) (oc : Nat) : List Value := [.int .i64 R.who, .int .u64 R.secret, .slice ka R.keys.length kc, .slice oa R.olds.length oc]
structure MG (w : World) (o : Own) (q : Nat) (R : Rng) : Prop where
  mem : ∃ ka kc oa oc, ∃ ol : List BS, Blk w q 61 (R.W ka kc oa oc) ∧ KRw w o q ka kc R.keys ∧ ORw w o q oa oc ol ∧ ol.map BS.bs = R.olds ∧ ∀ x ∈ ol, BSk w o x
  tg : o q = some q
section
variable {w w' w1 : World} {o o' o1 : Own} {q k p N m : Nat} {K : Nat → Prop} {R : Rng} {b : List UInt8} {a : Option Addr} {c : Nat}
theorem MG.lt (h : MG w o q R) : q < w.heap.size := by
  obtain ⟨ka, kc, oa, oc, ol, hb, _⟩ := h.mem
  exact hb.lt
theorem MG.step (h : MG w o q R) (s : Step K w o w' o') (hk : ¬ K q) : MG w' o' q R := by
  obtain ⟨⟨ka, kc, oa, oc, ol, hb, hk1, ho, hm, hx⟩, tg⟩ := h
  exact ⟨⟨ka, kc, oa, oc, ol, s.blk hb tg hk, hk1.step s hk, ho.step s hk, hm, fun x h => (hx x h).step s⟩, by rw [s.own hb.lt]; exact tg⟩
theorem MG.pushKey (h : MG w o q R) (ok : Tags w o) (hl : R.keys.length < 1000000) (x : Int) {qb : Nat} (hb : Blk w qb 36 [.int .u64 x]) {ka : Option Addr} {n kc : Nat} (hc : w.cell? ((blk q).add 2) = some (.slice ka n kc)) :
    ∃ a' n' c' w' o', (Builtin.append_ #[22, 22] 22 #[.slice ka n kc, .slice (some (blk qb)) 1 1]).run Try.prog w = .ok (.slice a' n' c') w' ∧ Step (fun j => j = q) w o w' o' ∧
      Q0d w' ((blk q).add 2) ∧ ∀ w2, w2 = w'.setCell ((blk q).add 2) (.slice a' n' c') → Step (fun j => j = q) w o w2 (grow w' o') ∧ MG w2 (grow w' o') q { R with keys := R.keys ++ [x] } := by
  obtain ⟨⟨ka', kc', oa, oc, ol, hbk, hk1, ho, hm, hx⟩, tg⟩ := h
  have hc2 := hbk.cella (i := 2) (v := .slice ka' R.keys.length kc') rfl
  rw [hc] at hc2
  cases hc2
  obtain ⟨i, hi, hz, hsz, hby⟩ := info_of inf36
  obtain ⟨a', c', w', o', hrun, s2, hk2, hk, _⟩ := Grows.push (ty := 22) Try.underlying22 hi hz hsz hby rfl (by decide) hk1 ok hbk.lt (xa := some (blk qb)) (m := 1) (xc := 1) (news := [x].map u64V) rfl (RowAt.of_blk hb) Q5s (by omega) (by omega)
  have X2 : Ext (fun b => ∃ ad, ka = some ad ∧ b = ad.block) w w' := ⟨s2.ext.os, s2.ext.tape, s2.ext.output, s2.ext.size, fun b hb hn => hk b hb fun ad ha hb' => hn ⟨ad, ha, hb'⟩⟩
  have hb2 : Blk w' q 61 _ := hbk.ext X2 fun ⟨ad, h1, h2⟩ => hk1.ne hbk (by decide) ad h1 h2.symm
  have ho2 : ORw w' o' q oa oc ol := ho.keep X2 (fun ad ha ⟨ad', h1, h2⟩ => ho.apart hk1 (by decide) ad ad' ha h1 h2) fun b hb => s2.own hb
  have tg2 : o' q = some q := by rw [s2.own hbk.lt]; exact tg
  refine ⟨a', _, c', w', o', hrun, s2, hb2.cana (i := 2) rfl, fun w3 e3 => ?_⟩
  have X3 : Ext (fun b => b = q) w' w3 := (Ext.refl (fun b => b = q) w').x_set (q := q) (i := 2) rfl (.inl rfl) e3
  have b3 := hb2.seti 2 rfl e3
  have hk2' : KRw w' o' q a' c' (R.keys ++ [x]) := by
    unfold KRw
    rw [List.length_append, List.map_append]; exact hk2
  have s3 : Step (fun j => j = q) w' o' w3 (grow w' o') := Step.of_ext X3 s2.ok fun b hb _ => by subst hb; exact tg2
  refine ⟨s2.trans s3, ⟨⟨a', c', oa, oc, ol, ?_, ?_, ?_, hm, fun y hy => ((hx y hy).step s2).step s3⟩, by rw [s3.own hb2.lt]; exact tg2⟩⟩
  · have e : Rng.W { R with keys := R.keys ++ [x] } a' c' oa oc = [.int .i64 R.who, .int .u64 R.secret, .slice a' (R.keys.length + 1) c', .slice oa R.olds.length oc] := by unfold Rng.W; rw [List.length_append]; rfl
    rw [e]; exact b3
  · exact hk2'.keep X3 (hk2'.ne hb2 (by decide)) fun b hb => s3.own hb
  · exact ho2.keep X3 (ho2.ne hb2 (by decide)) fun b hb => s3.own hb
theorem MG.pushOld (h : MG w o q R) (ok : Tags w o) (hl : R.olds.length < 1000000) {x : BS} (hxk : BSk w o x) {qb : Nat} (hb : Blk w qb 25 [x.v]) {ka : Option Addr} {n kc : Nat} (hc : w.cell? ((blk q).add 3) = some (.slice ka n kc)) :
    ∃ a' n' c' w' o', (Builtin.append_ #[59, 59] 59 #[.slice ka n kc, .slice (some (blk qb)) 1 1]).run Try.prog w = .ok (.slice a' n' c') w' ∧ Step (fun j => j = q) w o w' o' ∧
      Q0d w' ((blk q).add 3) ∧ ∀ w2, w2 = w'.setCell ((blk q).add 3) (.slice a' n' c') → Step (fun j => j = q) w o w2 (grow w' o') ∧ MG w2 (grow w' o') q { R with olds := R.olds ++ [x.bs] } := by
  obtain ⟨⟨ka', kc', oa, oc, ol, hbk, hk1, ho, hm, hx⟩, tg⟩ := h
  have hol : ol.length = R.olds.length := by rw [← hm, List.length_map]
  have hc2 := hbk.cella (i := 3) (v := .slice oa R.olds.length oc) rfl
  rw [hc] at hc2
  cases hc2
  obtain ⟨i, hi, hz, hsz, hby⟩ := info_of inf25
  obtain ⟨a', c', w', o', hrun, s2, hk2, hk, _⟩ := Grows.push (ty := 59) Try.underlying59 hi hz hsz hby rfl (by decide) ho ok hbk.lt (xa := some (blk qb)) (m := 1) (xc := 1) (news := [x].map BS.v) rfl (RowAt.of_blk hb) Q5t (by omega) (by omega)
  rw [hol] at hrun
  have X2 : Ext (fun b => ∃ ad, ka = some ad ∧ b = ad.block) w w' := ⟨s2.ext.os, s2.ext.tape, s2.ext.output, s2.ext.size, fun b hb hn => hk b hb fun ad ha hb' => hn ⟨ad, ha, hb'⟩⟩
  have hb2 : Blk w' q 61 _ := hbk.ext X2 fun ⟨ad, h1, h2⟩ => ho.ne hbk (by decide) ad h1 h2.symm
  have hk1' : KRw w' o' q ka' kc' R.keys := hk1.keep X2 (fun ad ha ⟨ad', h1, h2⟩ => hk1.apart ho (by decide) ad ad' ha h1 h2) fun b hb => s2.own hb
  have tg2 : o' q = some q := by rw [s2.own hbk.lt]; exact tg
  refine ⟨a', _, c', w', o', hrun, s2, hb2.cana (i := 3) rfl, fun w3 e3 => ?_⟩
  have X3 : Ext (fun b => b = q) w' w3 := (Ext.refl (fun b => b = q) w').x_set (q := q) (i := 3) rfl (.inl rfl) e3
  have b3 := hb2.seti 3 rfl e3
  have hk2' : ORw w' o' q a' c' (ol ++ [x]) := by
    unfold ORw
    rw [List.length_append, List.map_append]; exact hk2
  have s3 : Step (fun j => j = q) w' o' w3 (grow w' o') := Step.of_ext X3 s2.ok fun b hb _ => by subst hb; exact tg2
  refine ⟨s2.trans s3, ⟨⟨ka', kc', a', c', ol ++ [x], ?_, ?_, ?_, by rw [List.map_append, hm]; rfl, fun y hy => ?_⟩, by rw [s3.own hb2.lt]; exact tg2⟩⟩
  · have e : Rng.W { R with olds := R.olds ++ [x.bs] } ka' kc' a' c' = [.int .i64 R.who, .int .u64 R.secret, .slice ka' R.keys.length kc', .slice a' (R.olds.length + 1) c'] := by unfold Rng.W; rw [List.length_append]; rfl
    rw [e]; exact b3
  · exact hk1'.keep X3 (hk1'.ne hb2 (by decide)) fun b hb => s3.own hb
  · exact hk2'.keep X3 (hk2'.ne hb2 (by decide)) fun b hb => s3.own hb
  · rcases List.mem_append.1 hy with hy | hy
    · exact ((hx y hy).step s2).step s3
    · rw [List.mem_singleton.1 hy]; exact (hxk.step s2).step s3
theorem MG.key (h : MG w o q R) {i : Nat} (hi : i < R.keys.length) : ∃ ka kc ad, w.cell? ((blk q).add 2) = some (.slice ka R.keys.length kc) ∧ ka = some ad ∧ w.cell? (ad.add (i * 1)) = some (.int .u64 (R.keys[i]?.getD 0)) := by
  obtain ⟨⟨ka, kc, oa, oc, ol, hbk, hk1, ho, hm, hx⟩, tg⟩ := h
  have hr := hk1.row
  have hg : (R.keys.map u64V)[i]? = some (u64V (R.keys[i]?.getD 0)) := by rw [List.getElem?_map, List.getElem?_eq_getElem hi]; rfl
  obtain ⟨ad, ha, hc⟩ := hr i _ hg
  exact ⟨ka, kc, ad, hbk.cella (i := 2) rfl, ha, by rw [Nat.mul_one]; exact hc⟩
theorem MG.who (h : MG w o q R) : w.cell? ((blk q).add 0) = some (.int .i64 R.who) := by
  obtain ⟨⟨ka, kc, oa, oc, ol, hbk, _⟩, tg⟩ := h
  exact hbk.cella (i := 0) rfl
theorem MG.secret (h : MG w o q R) : w.cell? ((blk q).add 1) = some (.int .u64 R.secret) := by
  obtain ⟨⟨ka, kc, oa, oc, ol, hbk, _⟩, tg⟩ := h
  exact hbk.cella (i := 1) rfl
theorem MG.keysC (h : MG w o q R) : ∃ ka kc, w.cell? ((blk q).add 2) = some (.slice ka R.keys.length kc) := by
  obtain ⟨⟨ka, kc, oa, oc, ol, hbk, _⟩, tg⟩ := h
  exact ⟨ka, kc, hbk.cella (i := 2) rfl⟩
theorem MG.oldsC (h : MG w o q R) : ∃ ka kc, w.cell? ((blk q).add 3) = some (.slice ka R.olds.length kc) := by
  obtain ⟨⟨ka, kc, oa, oc, ol, hbk, _⟩, tg⟩ := h
  exact ⟨oa, oc, hbk.cella (i := 3) rfl⟩
theorem MG.init {b : Nat} {who secret : Int} (ok : Tags w o) (X : Ext no w w') (hb : Blk w' b 61 [.int .i64 who, .int .u64 secret, .slice none 0 0, .slice none 0 0]) (hq : w.heap.size ≤ b) (hq' : b < w'.heap.size) :
    Step no w o w' (tag (grow w o) b b) ∧ MG w' (tag (grow w o) b b) b ⟨who, secret, [], []⟩ :=
  ⟨(Step.of_no X ok).tag hq hq', ⟨none, 0, none, 0, [], hb, Grows.nil _ _ _ _ _, Grows.nil _ _ _ _ _, rfl, fun x h => (by cases h)⟩, Q1v⟩
end
theorem Q3h : ∀ {l : List (Int × List UInt8)} {last : Int}, boxesGo last l = true → l.Pairwise (fun a b => a.1 < b.1) ∧ (∀ x ∈ l, last < x.1) ∧ ∀ x ∈ l, x.2.length = 16
  | [], last, _ => ⟨List.Pairwise.nil, fun x h => (by cases h), fun x h => (by cases h)⟩
  | x :: r, last, h => by
    simp only [boxesGo, Bool.and_eq_true, decide_eq_true_eq] at h
    obtain ⟨⟨⟨h1, h2⟩, h3⟩, h4⟩ := h
    obtain ⟨g1, g2, g3⟩ := Q3h h4
    refine ⟨List.Pairwise.cons g2 g1, fun y hy => ?_, fun y hy => ?_⟩
    · rcases List.mem_cons.1 hy with rfl | hy
      · exact h2
      · have := g2 y hy; omega
    · rcases List.mem_cons.1 hy with rfl | hy
      · exact h3
      · exact g3 y hy
theorem Q4H {c : Chg} (h : rightM c = true) (hk : c.kd = 3) : boxesGo (-1) c.ws = true := by
  rw [Q2Z hk] at h
  simp only [Bool.and_eq_true] at h
  have h1 := h.1
  unfold boxesP at h1
  simp only [Bool.and_eq_true] at h1
  exact h1.1
theorem Q5I (S : OS) (olds : List (List UInt8)) {ks : List Int} (h : ∀ x ∈ ks, x ≠ 0) (x : Int) : backK S olds ks.length (ks ++ [x]) = ks ++ [x] := by
  cases hl : ks.length with
  | zero => rfl
  | succ e =>
    unfold backK
    rw [if_neg]
    intro ht
    have h2 := ht.1.2
    rw [List.getElem?_append_left (by omega), List.getElem?_eq_getElem (by omega)] at h2
    exact h _ (List.getElem_mem _) h2
theorem Q3w {l : List (Int × List UInt8)} (hp : l.Pairwise fun a b => a.1 < b.1) {t : Nat} {x : Int × List UInt8} (hx : l[t]? = some x) : (l.take t).find? (fun p => p.1 == x.1) = none := by
  rw [List.find?_eq_none]
  intro y hy hc
  obtain ⟨i, hi⟩ := List.mem_iff_getElem?.1 hy
  have hit : i < t := by
    have := (List.getElem?_eq_some_iff.1 hi).1
    rw [List.length_take] at this; omega
  rw [List.getElem?_take_of_lt hit] at hi
  obtain ⟨h1, e1⟩ := List.getElem?_eq_some_iff.1 hi
  obtain ⟨h2, e2⟩ := List.getElem?_eq_some_iff.1 hx
  have := List.pairwise_iff_getElem.1 hp i t h1 h2 hit
  rw [e1, e2] at this
  simp only [beq_iff_eq] at hc
  omega
def toldTo (S : OS) (R : Rng) (l : List (Int × List UInt8)) : Int × Int := match l.find? (fun p => p.1 == R.who) with | some p => Q12 S R.secret p.2 | none => (0, 11)
section
variable {w w' w1 : World} {o o' o1 : Own} {q k p N m j n : Nat} {K : Nat → Prop} {R : Rng} {S : OS} {b : List UInt8} {a : Option Addr} {c : Nat} {l : List Wr} {cg : Chg} {wa oa : Option Addr} {wc oc : Nat}
theorem Q52 (h : MG w o q R) (hP : Rof w o j S n) (hn : n < 1000000) (hqj : q ≠ j) (hl : R.keys.length = R.olds.length) (h1 : R.keys.length < 1000) (hnz : ∀ x ∈ R.keys, x ≠ 0) (hC : CH w o cg wa wc l oa oc) (hoc : cg.old.length ≤ oc) :
    Calls Try.prog 26 #[.pointer (some (blk q)), .pointer (some (blk j)), chgV cg wa wc oa oc] w (Ret (.int .i64 (learnK S R cg).2) fun w' => ∃ o', Step (fun i => i = q) w o w' o' ∧ MG w' o' q (learnK S R cg).1) := by
  refine Q0a.run _ _ _ _ _ _ _ _ _ _ _ _ ?_
  unfold Q0a.N
  have ok := hP.ok
  intro w9 pp X9 P9
  obtain ⟨s9, M9⟩ := Step.priv X9 P9 ok
  have hpp := P9 pp (by simp)
  have hql := h.lt
  have hpq : pp ≠ q := by omega
  have hlen : cg.ws.length = l.length := by rw [← hC.m]; simp
  have hln := hC.n
  have bad : ∀ (k2 : Int) (w9 : World) (o9 : Own), learnK S R cg = (R, k2) → Step no w o w9 o9 → Value.int .i64 k2 = .int .i64 (learnK S R cg).2 ∧ ∃ o', Step (fun i => i = q) w o w9 o' ∧ MG w9 o' q (learnK S R cg).1 := fun k2 w9 o9 hK s9 => by
    rw [hK]; exact ⟨rfl, o9, s9.none, h.step s9 id⟩
  have R9 := Q3r (w := w9) (cg := cg) (wa := wa) (oa := oa) (wc := wc) (oc := oc) (hC.step s9).ws.1 hC.m hC.n hC.ol
  refine Calls.mono R9 fun u w13 ⟨he, X13⟩ => ⟨_, he, (M9.keep (Step.of_no X13 s9.ok) fun _ _ h => h), fun hr => ?_, fun hr => ⟨fun hk => ?_, fun hk => ?_⟩⟩
  · exact bad 1 w13 _ (by unfold learnK; rw [if_pos (.inr hr)]) (s9.trans (Step.of_no X13 s9.ok))
  · exact bad 1 w13 _ (by unfold learnK; rw [if_pos (.inl hk)]) (s9.trans (Step.of_no X13 s9.ok))
  have t13 := Step.of_no X13 s9.ok
  have s13 := s9.trans t13
  have M13 := M9.step t13
  have E13 := h.step s13 id
  obtain ⟨ka, kc, hc3⟩ := E13.keysC
  refine ⟨_, rfl, _, _, _, hc3, fun h20 => ?_, fun h20 => ?_⟩
  · exact bad 3 w13 _ (by unfold learnK; rw [if_neg (by rw [hr]; simp [hk]), if_pos (by omega)]) s13
  have hK : learnK S R cg = ({ R with keys := R.keys ++ [(toldBy S R cg).1], olds := R.olds ++ [cg.old] }, (toldBy S R cg).2) := by
    unfold learnK; rw [if_neg (by rw [hr]; simp [hk]), if_neg (by omega), Q5I _ _ hnz]
  obtain ⟨hpw, _, hb16⟩ := Q3h (Q4H hr hk)
  rw [← hC.m] at hpw
  have htb : toldBy S R cg = toldTo S R (l.map Wr.p) := by unfold toldBy toldTo; rw [hC.m]; try rfl
  rw [hlen]
  refine ⟨fun m vs w1 => ∃ (t : Nat), vs = [.int .u64 (toldTo S R ((l.map Wr.p).take t)).1, .int .i64 (toldTo S R ((l.map Wr.p).take t)).2, .int .i64 t] ∧ m + t = l.length ∧ Ext no w13 w1, l.length, ⟨0, rfl, rfl, Ext.refl _ _⟩, ?_⟩
  intro m w25 key kk i hI
  obtain ⟨t, hi, hm, X25⟩ := hI
  simp only [List.cons.injEq, Value.int.injEq, true_and, and_true] at hi
  obtain ⟨rfl, rfl, rfl⟩ := hi
  have t25 := Step.of_no X25 s13.ok
  have s25 := s13.trans t25
  have E25 := h.step s25 id
  have C25 := hC.step s25
  refine ⟨fun ht => ?_, fun ht => ?_⟩
  · have htl : t < l.length := by omega
    have hg : l[t]? = some l[t] := List.getElem?_eq_getElem htl
    have hmem := List.getElem_mem htl
    have hgm : (l.map Wr.p)[t]? = some (l[t]).p := by rw [List.getElem?_map, hg]; rfl
    have htk : (l.map Wr.p).take (t + 1) = (l.map Wr.p).take t ++ [(l[t]).p] := by rw [List.take_add_one, hgm]; rfl
    generalize l[t] = x at *
    have hw25 := C25.ws.1
    obtain ⟨ad, rfl⟩ := hw25.faddr Wr.len (by decide) htl
    refine ⟨ad, rfl, by omega, by omega, x.who, by rw [Int.toNat_natCast]; exact hw25.fcell Wr.len hg 0 rfl, _, E25.who, fun hwho => ?_, fun hwho => ⟨by omega, by omega, fun w27 X27 => ⟨m - 1, by omega, t + 1, ?_, by omega, X25.trans X27⟩⟩⟩
    · have hno : ((l.map Wr.p).take t).find? (fun p => p.1 == R.who) = none := by
        have := Q3w hpw hgm
        rwa [show x.p.1 = R.who from hwho] at this
      have ht2 : toldTo S R ((l.map Wr.p).take (t + 1)) = Q12 S R.secret x.b := by
        unfold toldTo
        rw [htk, List.find?_append, hno]
        have : (x.p.1 == R.who) = true := by rw [show x.p.1 = R.who from hwho]; simp
        rw [List.find?_cons, this]; rfl
      refine ⟨_, E25.secret, by omega, by omega, _, _, _, by rw [Int.toNat_natCast]; exact hw25.fcell Wr.len hg 1 rfl, fun w34 X34 => ?_⟩
      have t34 := Step.of_no X34 s25.ok
      have s34 := s25.trans t34
      obtain ⟨x1, x2, x3⟩ := (hC.step s34).bs x hmem
      refine Calls.mono ((hP.step s34 id).unwrap hn R.secret x1.1 x3) fun u w42 ⟨he, X42⟩ => ⟨_, _, he, ((M13.step t25).step t34).keep (Step.of_no X42 s34.ok) (fun _ _ h => h), by omega, by omega, m - 1, by omega, t + 1, ?_, by omega, (X25.trans X34).trans X42⟩
      rw [ht2]; rfl
    · have ht2 : toldTo S R ((l.map Wr.p).take (t + 1)) = toldTo S R ((l.map Wr.p).take t) := by
        unfold toldTo
        rw [htk, List.find?_append]
        have hf : (x.p.1 == R.who) = false := by
          show (x.who == R.who) = false; simpa using hwho
        have : [x.p].find? (fun p => p.1 == R.who) = none := by rw [List.find?_cons, hf]; rfl
        rw [this, Option.or_none]
      rw [ht2]; rfl
  · have htt : t = l.length := by omega
    subst htt
    rw [List.take_of_length_le (by rw [List.length_map]; exact Nat.le_refl _), ← htb]
    obtain ⟨x, hx⟩ : ∃ x, (toldBy S R cg).1 = x := ⟨_, rfl⟩
    rw [hx] at hK ⊢
    obtain ⟨ka2, kc2, hc25⟩ := E25.keysC
    refine ⟨_, _, _, hc25, fun w47 q48 X47 b47 hq47 hq47' => ?_⟩
    have t47 := Step.of_no X47 s25.ok
    have s47 := s25.trans t47
    have E47 := h.step s47 id
    obtain ⟨a6, n6, c6, w50, o50, hrun, s50, hcan, hst⟩ := E47.pushKey s47.ok (by omega) x b47 (X47.cell hc25 id)
    have M47 := (M13.step t25).step t47
    have a20 : ((blk q).add 2).add 0 = (blk q).add 2 := by rw [add_add]
    refine ⟨a6, n6, c6, w50, hrun, M47.keep s50 (fun y hy => by rw [List.mem_singleton.1 hy]; exact hpq), ?_⟩
    rw [a20]
    refine ⟨hcan, fun y hy => by rw [List.mem_singleton.1 hy, Q1a]; exact hpq, Q01 fun w51 e51 => ?_⟩
    obtain ⟨s51, E51⟩ := hst w51 e51
    have s51' : Step (fun i => i = q) w o w51 _ := s47.none.trans s51
    obtain ⟨oa1, oc1, hc4⟩ := E51.oldsC
    refine ⟨_, _, _, hc4, fun w55 q56 X55 b55 hq55 hq55' => ?_⟩
    have t55 := Step.of_no X55 s51.ok
    have E55 := E51.step t55 id
    have C55 := (hC.step s51').step t55
    refine ⟨X55.cell hc4 id, ?_⟩
    obtain ⟨a8, n8, c8, w59, o59, hrun8, s59, hcan8, hst8⟩ := E55.pushOld (x := ⟨oa, oc, cg.old⟩) t55.ok (by show R.olds.length < 1000000; omega) ⟨C55.old, hoc⟩ b55 (X55.cell hc4 id)
    have a30 : ((blk q).add 3).add 0 = (blk q).add 3 := by rw [add_add]
    refine ⟨a8, n8, c8, w59, hrun8, ?_⟩
    rw [a30]
    refine ⟨hcan8, Q01 fun w60 e60 => ?_⟩
    obtain ⟨s60, E60⟩ := hst8 w60 e60
    have s60' : Step (fun i => i = q) w o w60 _ := (s51'.trans t55.none).trans s60
    have E60 : MG w60 (grow w59 o59) q { R with keys := R.keys ++ [x], olds := R.olds ++ [cg.old] } := E60
    have fin : Value.int .i64 (toldBy S R cg).2 = .int .i64 (learnK S R cg).2 ∧ ∃ o', Step (fun i => i = q) w o w60 o' ∧ MG w60 o' q (learnK S R cg).1 := by rw [hK]; exact ⟨rfl, _, s60', E60⟩
    obtain ⟨ka3, kc3, hc60⟩ := E60.keysC
    have hkl : (R.keys ++ [x]).length = R.keys.length + 1 := by simp
    have hc60 : w60.cell? ((blk q).add 2) = some (.slice ka3 (R.keys ++ [x]).length kc3) := hc60
    refine ⟨_, _, _, hc60, by omega, by omega, ?_⟩
    refine ⟨fun m vs w1 => vs = [.int .i64 (((R.keys ++ [x]).length : Int) - 1)] ∧ w1 = w60, 0, ⟨rfl, rfl⟩, ?_⟩
    rintro m2 w66 ev ⟨hev, rfl⟩
    simp only [List.cons.injEq, Value.int.injEq, true_and, and_true] at hev
    subst hev
    refine ⟨fun hgt => ?_, fun _ => fin⟩
    have e1 : Int.toNat (((R.keys ++ [x]).length : Int) - 1) = R.keys.length := by omega
    have e2 : Int.toNat (((R.keys ++ [x]).length : Int) - 1 - 1) = R.keys.length - 1 := by omega
    obtain ⟨ka4, kc4, ad4, cc4, ha4, v4⟩ := E60.key (i := R.keys.length) (by show R.keys.length < (R.keys ++ [x]).length; omega)
    have v4 : w66.cell? (ad4.add (R.keys.length * 1)) = some (.int .u64 ((R.keys ++ [x])[R.keys.length]?.getD 0)) := v4
    refine ⟨_, _, _, cc4, ad4, ha4, by omega, by show (((R.keys ++ [x]).length : Int) - 1) < ((R.keys ++ [x]).length : Int); omega, _, by rw [e1]; exact v4, fun hn1 => ?_, fun _ => fin⟩
    obtain ⟨ka5, kc5, ad5, cc5, ha5, v5⟩ := E60.key (i := R.keys.length - 1) (by show R.keys.length - 1 < (R.keys ++ [x]).length; omega)
    have v5 : w66.cell? (ad5.add ((R.keys.length - 1) * 1)) = some (.int .u64 ((R.keys ++ [x])[R.keys.length - 1]?.getD 0)) := v5
    refine ⟨_, _, _, cc5, by omega, by omega, ad5, ha5, by omega, by show (((R.keys ++ [x]).length : Int) - 1 - 1) < ((R.keys ++ [x]).length : Int); omega, _, by rw [e2]; exact v5, fun hz => ?_, fun _ => fin⟩
    exfalso
    rw [List.getElem?_append_left (by omega), List.getElem?_eq_getElem (by omega)] at hz
    exact hnz _ (List.getElem_mem _) hz
end
end Go.Proofs.Ytgeakpldocfccaa